/- Texts laid together: QosB, QosC, SvD, SvE, SvF, QosD, SvG, SvH, SvI, BiE, BiQ, BiR. No statement is proved here. -/
import Derived.Shelf.Strings.BuilderK
import Derived.Lib.SmallJoins
import Derived.Test.YticmfflnenoplacGreatDoorQ03
namespace Go.Proofs.YticmfflnenoplacGreatDoor
open Go.RowKit Qo
theorem okAt_eq (s : ByteArray) (k : Nat) (h : k < s.size) : okAt s k = ((decide (97 ≤ s[k].toNat) && decide (s[k].toNat ≤ 122)) || (decide (0 < k) && decide (48 ≤ s[k].toNat) && decide (s[k].toNat ≤ 57))) := by
  unfold okAt
  rw [byteAt_eq s k h]
theorem ok_cases (s : ByteArray) (k : Nat) (h : k < s.size) :
    (okAt s k = true ∧ ((97 ≤ (s[k].toNat : Int) ∧ (s[k].toNat : Int) ≤ 122) ∨ (0 < k ∧ 48 ≤ (s[k].toNat : Int) ∧ (s[k].toNat : Int) ≤ 57))) ∨
    (okAt s k = false ∧ ((k = 0 ∧ (s[k].toNat : Int) < 97) ∨ (k = 0 ∧ 122 < (s[k].toNat : Int)) ∨ (0 < k ∧ (s[k].toNat : Int) < 48) ∨ (0 < k ∧ 57 < (s[k].toNat : Int) ∧ (s[k].toNat : Int) < 97) ∨ (0 < k ∧ 122 < (s[k].toNat : Int)))) := by
  rw [okAt_eq s k h]
  generalize s[k].toNat = b
  simp only [Bool.or_eq_true, Bool.and_eq_true, decide_eq_true_eq, Bool.or_eq_false_iff, Bool.and_eq_false_iff, decide_eq_false_iff_not]
  omega
theorem okAll_succ (s : ByteArray) (k : Nat) (h : ∀ j, j < k → okAt s j = true) (hk : okAt s k = true) : ∀ j, j < k + 1 → okAt s j = true := by
  intro j hj
  by_cases he : j = k
  · rw [he]; exact hk
  · exact h j (by omega)
theorem beq_zero_false (k : Nat) (h : 0 < k) : (((k : Nat) : Int) == 0) = false := by
  rw [beq_eq_false_iff_ne]
  omega
theorem RetB.of {b b' : Bool} {w : World} (h : b = b') : RetB b w (.returned (.bool b')) w := ⟨by rw [h], rfl⟩
section
attribute [local irreducible] okAt nameMay
set_option maxHeartbeats 2000000 in
theorem Name_any (s : ByteArray) (hs : s.size ≤ maxLen) (w : World) : Calls Tryz.prog 69 #[.string s] w (RetB (nameMay s) w) := by
  unfold maxLen at hs
  go_enter Tryz.func69, Tryz.ntmps69
  go_upto_region 2 with fail
  go_loop [6] (fun i => ∃ k : Nat, i = .int .i64 k ∧ k ≤ s.size ∧ Hid (∀ j, j < k → okAt s j = true)) (fun i => s.size - (intOf i).toNat)
  case atStart => exact ⟨0, rfl, by omega, fun j hj => by omega⟩
  case round =>
    obtain ⟨k, rfl, hk, hall⟩ := hrel
    by_cases hlt : k < s.size
    · rcases ok_cases s k hlt with ⟨ho, hd⟩ | ⟨ho, hd⟩
      · have HN := Lib.hid (okAll_succ s k hall.out ho)
        clear ho
        rcases hd with hd | ⟨hd0, hd⟩
        · go_wp2_with fail
          go_round
          case rel => exact ⟨k + 1, by go_num, by omega, HN.out⟩
          case measure => simp [intOf]; omega
        · have hz := beq_zero_false k hd0
          have hc : ((s[k].toNat : Nat) : Int) < 97 := by omega
          go_wp2_with fail
          go_round
          case rel => exact ⟨k + 1, by go_num, by omega, HN.out⟩
          case measure => simp [intOf]; omega
      · have HF := Lib.hid (nameMay_no s k hlt ho)
        clear ho
        rcases hd with ⟨rfl, hd⟩ | ⟨rfl, hd⟩ | ⟨hd0, hd⟩ | ⟨hd0, hd, hd2⟩ | ⟨hd0, hd⟩
        all_goals
          go_wp2_with fail
          go_ret
          exact RetB.of (by rw [HF.out] <;> simp <;> omega)
    · obtain rfl : k = s.size := by omega
      rcases (show s.size = 0 ∨ (1 ≤ s.size ∧ s.size ≤ 8) ∨ 8 < s.size by omega) with h0 | ⟨h1, h2⟩ | h8
      · have he := isEmpty_yes s h0
        have HF := Lib.hid (nameMay_len s (.inl (by omega)))
        clear h0
        go_wp2_with fail
        go_ret
        exact RetB.of (by rw [HF.out] <;> simp <;> omega)
      · have he := isEmpty_no s h1
        have HF := Lib.hid (nameMay_yes s h1 h2 hall.out)
        go_wp2_with fail
        go_ret
        exact RetB.of (by rw [HF.out] <;> simp <;> omega)
      · have he := isEmpty_no s (by omega)
        have HF := Lib.hid (nameMay_len s (.inr h8))
        go_wp2_with fail
        go_ret
        exact RetB.of (by rw [HF.out] <;> simp <;> omega)
end
end Go.Proofs.YticmfflnenoplacGreatDoor
namespace Go.Proofs.YticmfflnenoplacGreatDoor
open Go.RowKit Qo Da
def RetEB (n : Int) (w : World) (e : Ending) (w' : World) : Prop := e = .returned (errV n) ∧ Below w.heap.size w w'
def RetIB (n : Int) (w : World) (e : Ending) (w' : World) : Prop := e = .returned (.int .i64 n) ∧ Below w.heap.size w w'
theorem RetEB.nil {n : Int} {w w' : World} (h : n = 0) (hb : Below w.heap.size w w') : RetEB n w (.returned .nilIface) w' := ⟨by rw [h]; rfl, hb⟩
theorem RetEB.err {n m : Int} {w w' : World} (h : n = m) (hm : m ≠ 0) (hb : Below w.heap.size w w') : RetEB n w (.returned (.iface 117 (.int .i64 m))) w' := ⟨by rw [h, errV_pos m hm], hb⟩
theorem RetEB.thru {n m : Int} {w w' : World} (h : n = m) (hb : Below w.heap.size w w') : RetEB n w (.returned (errV m)) w' := ⟨by rw [h], hb⟩
theorem RetIB.of {n m : Int} {w w' : World} (h : n = m) (hb : Below w.heap.size w w') : RetIB n w (.returned (.int .i64 m)) w' := ⟨by rw [h], hb⟩
theorem amt_cases (m b : Int) : (amtBad m b = true ∧ (m < 0 ∨ (0 ≤ m ∧ 1000000 < m) ∨ (0 ≤ m ∧ m ≤ 1000000 ∧ b < 0) ∨ (0 ≤ m ∧ m ≤ 1000000 ∧ 0 ≤ b ∧ 1125899906842624 < b))) ∨ (amtBad m b = false ∧ 0 ≤ m ∧ m ≤ 1000000 ∧ 0 ≤ b ∧ b ≤ 1125899906842624) := by
  unfold amtBad
  simp only [Bool.or_eq_true, decide_eq_true_eq, Bool.or_eq_false_iff, decide_eq_false_iff_not]
  omega
set_option maxHeartbeats 1000000 in
theorem amount_any (m b : Int) (w : World) : Calls Tryz.prog 119 #[.agg #[.int .i64 m, .int .i64 b]] w (RetEB (amtF m b) w) := by
  rcases amt_cases m b with ⟨h, hd⟩ | ⟨h, h1, h2, h3, h4⟩
  · have HF := Lib.hid h
    clear h
    rcases hd with hd | ⟨h1, hd⟩ | ⟨h1, h2, hd⟩ | ⟨h1, h2, h3, hd⟩
    all_goals
      go_enter Tryz.func119, Tryz.ntmps119
      go_wp2_with fail
      go_ret
      exact RetEB.err (amtF_yes HF.out) (by omega) ((Below.refl _ _).alloc (Nat.le_refl _) _)
  · have HF := Lib.hid h
    clear h
    go_enter Tryz.func119, Tryz.ntmps119
    go_wp2_with fail
    go_ret
    exact RetEB.nil (amtF_no HF.out) ((Below.refl _ _).alloc (Nat.le_refl _) _)
/-- The block of a container, boxed. -/
theorem cont_cells {w : World} {B : Nat} {cs : List Value} {c : Cont} (h : RCont w B cs c) : ∃ A cap, cs = [.string c.name, .int .i64 c.askM, .int .i64 c.askB, .int .i64 c.capM, .int .i64 c.capB, .slice A c.devs.length cap] ∧ c.name.size ≤ maxLen ∧ c.devs.length ≤ cap ∧ cap ≤ maxLen ∧ RSlice w B 2 RNeed [.slice A c.devs.length cap] c.devs ∧ (∀ k, k < c.devs.length → ∃ b off, A = some ⟨b, off, none⟩ ∧ b < B) := by
  obtain ⟨dv, h1, h2, _, _, _, _, h3⟩ := h
  obtain ⟨A, cap, e, e1, e2, e3⟩ := RS.form (RS.of h3)
  obtain rfl : dv = _ := by simpa using e
  exact ⟨A, cap, h1, h2, e1, e2, h3, e3⟩
theorem cont_bounds {w : World} {B : Nat} {cs : List Value} {c : Cont} (h : RCont w B cs c) : (-9223372036854775808 ≤ c.askM ∧ c.askM ≤ 9223372036854775807) ∧ (-9223372036854775808 ≤ c.askB ∧ c.askB ≤ 9223372036854775807) ∧ (-9223372036854775808 ≤ c.capM ∧ c.capM ≤ 9223372036854775807) ∧ (-9223372036854775808 ≤ c.capB ∧ c.capB ≤ 9223372036854775807) := by
  obtain ⟨dv, h1, h2, a, b, c, d, h3⟩ := h
  exact ⟨a, b, c, d⟩
theorem need_at {w : World} {B : Nat} {b off n cap : Nat} {l : List Need} (h : RSlice w B 2 RNeed [.slice (some ⟨b, off, none⟩) n cap] l) {k : Nat} (hk : k < l.length) :
    w.cell? ⟨b, off + k * 2, none⟩ = some (.string l[k].kind) ∧ w.cell? ⟨b, off + k * 2 + 1, none⟩ = some (.int .i64 l[k].many) ∧ l[k].kind.size ≤ maxLen ∧ -9223372036854775808 ≤ l[k].many ∧ l[k].many ≤ 9223372036854775807 := by
  obtain ⟨_, cs', q1, q2, q3, q4, q5⟩ := h.at_ hk
  have r0 := q2 0 _ (by rw [q3]; rfl)
  have r1 := q2 1 _ (by rw [q3]; rfl)
  rw [Nat.add_zero] at r0
  exact ⟨r0, r1, q4, q5⟩
theorem cont_amt1 {c : Cont} (h : amtBad c.askM c.askB = true) : contFault c = 1 := by simp [contFault, h]
theorem cont_amt2 {c : Cont} (h : amtBad c.askM c.askB = false) (h2 : amtBad c.capM c.capB = true) : contFault c = 1 := by simp [contFault, h, h2]
theorem cont_shape {c : Cont} (h : amtBad c.askM c.askB = false) (h2 : amtBad c.capM c.capB = false) (h3 : shapeBad c = true) : contFault c = 3 := by simp [contFault, h, h2, h3]
theorem cont_many {c : Cont} (h : amtBad c.askM c.askB = false) (h2 : amtBad c.capM c.capB = false) (h3 : shapeBad c = false) (h4 : 3 < c.devs.length) : contFault c = 2 := by simp [contFault, h, h2, h3, h4]
theorem cont_devs {c : Cont} (h : amtBad c.askM c.askB = false) (h2 : amtBad c.capM c.capB = false) (h3 : shapeBad c = false) (h4 : ¬ 3 < c.devs.length) : contFault c = firstF (needFault c.devs) c.devs.length := by
  unfold contFault
  rw [h, h2, h3]
  simp only [Bool.or_self, Bool.false_eq_true, if_false]
  rw [if_neg h4]
theorem shape_cases (c : Cont) : (shapeBad c = true ∧ ((0 < c.capM ∧ c.capM < c.askM) ∨ (c.capM ≤ 0 ∧ 0 < c.capB ∧ c.capB < c.askB) ∨ (0 < c.capM ∧ c.askM ≤ c.capM ∧ 0 < c.capB ∧ c.capB < c.askB))) ∨
    (shapeBad c = false ∧ ((c.capM ≤ 0 ∧ c.capB ≤ 0) ∨ (c.capM ≤ 0 ∧ 0 < c.capB ∧ c.askB ≤ c.capB) ∨ (0 < c.capM ∧ c.askM ≤ c.capM ∧ c.capB ≤ 0) ∨ (0 < c.capM ∧ c.askM ≤ c.capM ∧ 0 < c.capB ∧ c.askB ≤ c.capB))) := by
  unfold shapeBad
  simp only [Bool.or_eq_true, Bool.and_eq_true, decide_eq_true_eq, Bool.or_eq_false_iff, Bool.and_eq_false_iff, decide_eq_false_iff_not]
  omega
theorem all_succ {P : Nat → Prop} {k : Nat} (h : ∀ j, j < k → P j) (hk : P k) : ∀ j, j < k + 1 → P j := by
  intro j hj
  by_cases he : j = k
  · rw [he]; exact hk
  · exact h j (by omega)
section
attribute [local irreducible] amtBad amtF needBad needFault shapeBad contFault nameMay firstF lessS
set_option maxRecDepth 100000 in
set_option maxHeartbeats 16000000 in
theorem cont_any (c : Cont) (cs : List Value) (B : Nat) (w : World) (hB : B ≤ w.heap.size) (hR : RCont w B cs c) :
    Calls Tryz.prog 70 #[.agg cs.toArray] w (RetEB (contFault c) w) := by
  obtain ⟨A, cap, rfl, hn, hl, hcap, hD, hA⟩ := cont_cells hR
  unfold maxLen at hn hcap
  have HD := Lib.hid hD
  have HA := Lib.hid hA
  clear hD hA hR
  have k0 := Blk.new w 73 #[.string c.name, .int .i64 c.askM, .int .i64 c.askB, .int .i64 c.capM, .int .i64 c.capB, .slice A c.devs.length cap]
  have hbel : Below w.heap.size w (w.alloc (.cells #[.string c.name, .int .i64 c.askM, .int .i64 c.askB, .int .i64 c.capM, .int .i64 c.capB, .slice A c.devs.length cap] 73)) := (Below.refl _ _).alloc (Nat.le_refl _) _
  go_enter Tryz.func70, Tryz.ntmps70
  go_upto_region 2 with fail
  have k1 := Blk.new (w.alloc (.cells #[.string c.name, .int .i64 c.askM, .int .i64 c.askB, .int .i64 c.capM, .int .i64 c.capB, .slice A c.devs.length cap] 73)) 65 #[.int .i64 c.askM, .int .i64 c.askB, .int .i64 c.capM, .int .i64 c.capB]
  have k0' := k0.alloc (.cells #[.int .i64 c.askM, .int .i64 c.askB, .int .i64 c.capM, .int .i64 c.capB] 65)
  have hbel1 : Below w.heap.size w ((w.alloc (.cells #[.string c.name, .int .i64 c.askM, .int .i64 c.askB, .int .i64 c.capM, .int .i64 c.capB, .slice A c.devs.length cap] 73)).alloc (.cells #[.int .i64 c.askM, .int .i64 c.askB, .int .i64 c.capM, .int .i64 c.capB] 65)) := hbel.alloc (by simp) _
  simp only [World.size_alloc] at k1
  generalize (w.alloc (.cells #[.string c.name, .int .i64 c.askM, .int .i64 c.askB, .int .i64 c.capM, .int .i64 c.capB, .slice A c.devs.length cap] 73)).alloc (.cells #[.int .i64 c.askM, .int .i64 c.askB, .int .i64 c.capM, .int .i64 c.capB] 65) = w1 at *
  clear k0 hbel
  go_loopw [14] (fun i wr => ∃ n : Nat, i = .int .i64 n ∧ n ≤ 2 ∧ Hid ((0 < n → amtBad c.askM c.askB = false) ∧ (1 < n → amtBad c.capM c.capB = false)) ∧ Blk wr w.heap.size 73 #[.string c.name, .int .i64 c.askM, .int .i64 c.askB, .int .i64 c.capM, .int .i64 c.capB, .slice A c.devs.length cap] ∧ Blk wr (w.heap.size + 1) 65 #[.int .i64 c.askM, .int .i64 c.askB, .int .i64 c.capM, .int .i64 c.capB] ∧ Below w.heap.size w wr) (fun i _ => 2 - (intOf i).toNat)
  case atStart => exact ⟨0, rfl, by omega, ⟨fun h => by omega, fun h => by omega⟩, k0', k1, hbel1⟩
  case round =>
    obtain ⟨n, rfl, hn, hal, b0, b1, hbel⟩ := hrel
    clear k0' k1 hbel1
    have e1 := b1.cells
    have z1 := b1.lt
    rcases (show n = 0 ∨ n = 1 ∨ n = 2 by omega) with rfl | rfl | rfl
    · cases ha : amtBad c.askM c.askB
      · have HA1 := Lib.hid ha
        have hc := fun W => amount_any c.askM c.askB W
        rw [amtF_no ha] at hc
        have HC := Lib.hid hc
        clear ha hc
        go_wp2_with fail
        refine (HC.out _).mono ?_
        rintro e w2 ⟨rfl, hb2⟩
        rw [errV_0]
        have hal2 : Below wr.heap.size wr (wr.alloc (.cells #[.int .i64 c.askM, .int .i64 c.askB] 65)) := (Below.refl _ _).alloc (Nat.le_refl _) _
        have hb3 := hal2.trans (hb2.mono hal2.size)
        have b0' := b0.below hb3 b0.lt
        have b1' := b1.below hb3 b1.lt
        have hbel' := hbel.trans (hb3.mono hbel.size)
        clear b0 b1 e1 hb2 hal2
        go_wp2_with fail
        go_roundw
        case rel => exact ⟨1, rfl, by omega, by unfold Hid; exact ⟨fun _ => by first | exact HA1.out | trivial, fun h => by omega⟩, b0', b1', hbel'⟩
        case measure => simp [intOf]
      · have HF := Lib.hid (cont_amt1 ha)
        have hc := fun W => amount_any c.askM c.askB W
        rw [amtF_yes ha] at hc
        have HC := Lib.hid hc
        clear ha hc
        go_wp2_with fail
        refine (HC.out _).mono ?_
        rintro e w2 ⟨rfl, hb2⟩
        rw [errV_pos 1 (by omega)]
        go_wp2_with fail
        go_ret
        exact RetEB.err HF.out (by omega) ((hbel.alloc hbel.size _).trans (hb2.mono (by have := hbel.size; simp; omega)))
    · have ha := hal.out.1 (by omega)
      cases hb : amtBad c.capM c.capB
      · have HA1 := Lib.hid hb
        have HA0 := Lib.hid ha
        have hc := fun W => amount_any c.capM c.capB W
        rw [amtF_no hb] at hc
        have HC := Lib.hid hc
        clear ha hc hb
        go_wp2_with fail
        refine (HC.out _).mono ?_
        rintro e w2 ⟨rfl, hb2⟩
        rw [errV_0]
        have hal2 : Below wr.heap.size wr (wr.alloc (.cells #[.int .i64 c.capM, .int .i64 c.capB] 65)) := (Below.refl _ _).alloc (Nat.le_refl _) _
        have hb3 := hal2.trans (hb2.mono hal2.size)
        have b0' := b0.below hb3 b0.lt
        have b1' := b1.below hb3 b1.lt
        have hbel' := hbel.trans (hb3.mono hbel.size)
        clear b0 b1 e1 hb2 hal2
        go_wp2_with fail
        go_roundw
        case rel => exact ⟨2, rfl, by omega, by unfold Hid; exact ⟨fun _ => by first | exact HA0.out | trivial, fun _ => by first | exact HA1.out | trivial⟩, b0', b1', hbel'⟩
        case measure => simp [intOf]
      · have HF := Lib.hid (cont_amt2 ha hb)
        have hc := fun W => amount_any c.capM c.capB W
        rw [amtF_yes hb] at hc
        have HC := Lib.hid hc
        clear ha hc hb
        go_wp2_with fail
        refine (HC.out _).mono ?_
        rintro e w2 ⟨rfl, hb2⟩
        rw [errV_pos 1 (by omega)]
        go_wp2_with fail
        go_ret
        exact RetEB.err HF.out (by omega) ((hbel.alloc hbel.size _).trans (hb2.mono (by have := hbel.size; simp; omega)))
    · rw [show ((2 : Nat) : Int) = 2 from rfl]
      have HA1 := Lib.hid (hal.out.1 (by omega))
      have HA2 := Lib.hid (hal.out.2 (by omega))
      have e0 := b0.cells
      have z0 := b0.lt
      clear e1 b1 z1 hal
      rcases shape_cases c with ⟨hs, hd⟩ | ⟨hs, hd⟩
      · have HF := Lib.hid (cont_shape HA1.out HA2.out hs)
        clear hs
        rcases hd with hd | hd | hd
        all_goals
          go_wp2_with fail
          go_ret
          exact RetEB.err HF.out (by omega) hbel
      · by_cases h3 : 3 < c.devs.length
        · have HF := Lib.hid (cont_many HA1.out HA2.out hs h3)
          clear hs
          rcases hd with hd | hd | hd | hd
          all_goals
            go_wp2_with fail
            go_ret
            exact RetEB.err HF.out (by omega) hbel
        · have HF := Lib.hid (cont_devs HA1.out HA2.out hs h3)
          clear hs
          go_upto_region 8 with fail
          go_cut [51] (fun s wx => s = .bool false ∧ wr = wx)
          case first =>
            rcases hd with hd | hd | hd | hd
            all_goals
              go_wp2_with fail
              go_meet
              exact ⟨by simp <;> omega, rfl⟩
          case rest =>
            obtain ⟨rfl, rfl⟩ := hcut
            clear hd
            go_upto_region 13 with fail
            go_loopw [61] (fun i wi => ∃ k : Nat, i = .int .i64 k ∧ k ≤ c.devs.length ∧ Hid (∀ j, j < k → needFault c.devs j = 0) ∧ Blk wi w.heap.size 73 #[.string c.name, .int .i64 c.askM, .int .i64 c.askB, .int .i64 c.capM, .int .i64 c.capB, .slice A c.devs.length cap] ∧ Below w.heap.size w wi) (fun i _ => c.devs.length - (intOf i).toNat)
            case atStart => exact ⟨0, rfl, by omega, fun j hj => by omega, b0, hbel⟩
            case round =>
              clear b0 e0 z0 hbel
              obtain ⟨k, rfl, hk, hall, b0, hbel⟩ := hrel
              by_cases hlt : k < c.devs.length
              · obtain ⟨b, off, rfl, hb⟩ := HA.out k hlt
                obtain ⟨r0, r1, hks, hm1, hm2⟩ := need_at (HD.out.below (hbel.mono hB)) hlt
                have hat3 := Lib.hid (needFault_bad c.devs k hlt)
                have hat1 := Lib.hid (needFault_out c.devs k hlt)
                have hat0 := Lib.hid (needFault_ok c.devs k hlt)
                have hstop := Lib.hid (firstF_stop hall.out hlt)
                have hz0 := b0.lt
                have e0 := b0.cells
                have hbw : b < wr.heap.size := by have := hbel.size; omega
                unfold maxLen at hks
                have hprev : 0 < k → ∃ s, wr.cell? ⟨b, off + (k - 1) * 2, none⟩ = some (.string s) ∧ needBad c.devs k c.devs[k] = (!nameMay c.devs[k].kind || !lessS s c.devs[k].kind) := by
                  intro hk0
                  obtain ⟨r0', _⟩ := need_at (HD.out.below (hbel.mono hB)) (k := k - 1) (by omega)
                  have := needBad_succ c.devs (k - 1) (by omega) c.devs[k]
                  rw [show k - 1 + 1 = k by omega] at this
                  exact ⟨_, r0', this⟩
                have hz : k = 0 → needBad c.devs k c.devs[k] = !nameMay c.devs[k].kind := by
                  intro h
                  subst h
                  exact needBad_zero _ _
                have HPREV := Lib.hid hprev
                have HZ := Lib.hid hz
                have hNM := fun W => Name_any c.devs[k].kind (by unfold maxLen; omega) W
                clear hprev hz
                generalize hx : c.devs[k] = x at *
                have HX := Lib.hid hx
                clear hx
                obtain ⟨kind, many⟩ := x
                dsimp only at r0 r1 hm1 hm2 hks hNM
                go_upto_region 15 with fail
                have hba : Below w.heap.size w (wr.alloc (.cells #[.string kind, .int .i64 many] 128)) := hbel.alloc hbel.size _
                have b0a := b0.alloc (.cells #[.string kind, .int .i64 many] 128)
                have b9 := Blk.new wr 128 #[.string kind, .int .i64 many]
                have hbwa : b < (wr.alloc (.cells #[.string kind, .int .i64 many] 128)).heap.size := by simp; omega
                have hcl := bcell ((Below.refl wr.heap.size wr).alloc (Nat.le_refl _) (.cells #[.string kind, .int .i64 many] 128))
                have HNM := Lib.hid hNM
                clear r0 r1 e0 b0 hNM
                generalize wr.alloc (.cells #[.string kind, .int .i64 many] 128) = wa at *
                generalize wr.heap.size = pn at *
                have e0 := b0a.cells
                have z0 := b0a.lt
                have e9 := b9.cells
                have z9 := b9.lt
                have hI : Below wa.heap.size wa wa.drew := (Below.refl _ _).drew
                rcases Nat.eq_zero_or_pos k with hk0 | hk0
                · subst hk0
                  have HZ1 := Lib.hid (HZ.out rfl)
                  clear hcl HPREV HZ
                  cases hnm : nameMay kind
                  · rw [hnm] at HNM
                    have HB := Lib.hid (HZ1.out.trans (show (!nameMay kind) = true by rw [hnm]; rfl))
                    clear hnm HZ1
                    refine Flo.region 20 [(0, true), (1, true), (2, false), (3, true), (4, true), (5, true), (6, true), (7, true), (8, true), (9, true), (10, true), (11, true), (12, true), (13, true), (14, true), (15, true), (16, true), (17, true), (18, true), (19, true)] (fun v => Below wa.heap.size wa v) (by kernel_rfl) (by kernel_rfl) rfl hI ?_
                    simp only [List.drop_succ_cons, List.drop_zero]
                    iterate 2 (apply Flo.op rfl (hI := hI); (· intro v hv K hK; obtain ⟨hc, hf⟩ := Flo.bcl hv; go_wp2_with fail; all_goals first | exact Flo.noUndef (by with_reducible assumption) | exact hK); (· rfl))
                    refine Flo.seq rfl fun K hK => ?_
                    go_wp2_with fail
                    refine (HNM.out _).mono ?_
                    rintro e w5 ⟨rfl, rfl⟩
                    go_wp2_with fail
                    refine hK _ _ hI ?_
                    iterate 17 (apply Flo.op rfl (hI := hI); (· intro v hv K hK; obtain ⟨hc, hf⟩ := Flo.bcl hv; go_wp2_with fail; all_goals first | exact Flo.noUndef (by with_reducible assumption) | exact hK); (· rfl))
                    refine Flo.tail fun K hK => ?_
                    go_wp2_with fail
                    go_ret
                    exact RetEB.err (HF.out.trans ((hstop.out (by rw [hat3.out HB.out]; decide)).trans (hat3.out HB.out))) (by omega) (hba.trans (hI.mono hba.size))
                  · rw [hnm] at HNM
                    have HB := Lib.hid (HZ1.out.trans (show (!nameMay kind) = false by rw [hnm]; rfl))
                    clear hnm HZ1
                    refine Flo.region 20 [(0, true), (1, true), (2, false), (3, true), (4, true), (5, true), (6, true), (7, true), (8, true), (9, true), (10, true), (11, true), (12, true), (13, true), (14, true), (15, true), (16, true), (17, true), (18, true), (19, true)] (fun v => Below wa.heap.size wa v) (by kernel_rfl) (by kernel_rfl) rfl hI ?_
                    simp only [List.drop_succ_cons, List.drop_zero]
                    iterate 2 (apply Flo.op rfl (hI := hI); (· intro v hv K hK; obtain ⟨hc, hf⟩ := Flo.bcl hv; go_wp2_with fail; all_goals first | exact Flo.noUndef (by with_reducible assumption) | exact hK); (· rfl))
                    refine Flo.seq rfl fun K hK => ?_
                    go_wp2_with fail
                    refine (HNM.out _).mono ?_
                    rintro e w5 ⟨rfl, rfl⟩
                    go_wp2_with fail
                    refine hK _ _ hI ?_
                    iterate 17 (apply Flo.op rfl (hI := hI); (· intro v hv K hK; obtain ⟨hc, hf⟩ := Flo.bcl hv; go_wp2_with fail; all_goals first | exact Flo.noUndef (by with_reducible assumption) | exact hK); (· rfl))
                    refine Flo.tail fun K hK => ?_
                    rcases (show many < 1 ∨ (1 ≤ many ∧ 16 < many) ∨ (1 ≤ many ∧ many ≤ 16) by omega) with hm | ⟨hm, hm'⟩ | ⟨hm, hm'⟩
                    · have HM := Lib.hid (hat1.out HB.out (.inl hm))
                      go_wp2_with fail
                      go_ret
                      exact RetEB.err (HF.out.trans ((hstop.out (by rw [HM.out]; decide)).trans HM.out)) (by omega) (hba.trans (hI.mono hba.size))
                    · have HM := Lib.hid (hat1.out HB.out (.inr hm'))
                      go_wp2_with fail
                      go_ret
                      exact RetEB.err (HF.out.trans ((hstop.out (by rw [HM.out]; decide)).trans HM.out)) (by omega) (hba.trans (hI.mono hba.size))
                    · have HM := Lib.hid (hat0.out HB.out ⟨hm, hm'⟩)
                      go_wp2_with fail
                      go_roundw
                      case rel => exact ⟨0 + 1, by first | rfl | go_num, by omega, all_succ hall.out HM.out, b0a.drew, hba.trans (hI.mono hba.size)⟩
                      case measure => simp [intOf] <;> omega
                · obtain ⟨s, r0', hnb⟩ := HPREV.out hk0
                  have r0a := (hcl.1 b (off + (k - 1) * 2) hbw).trans r0'
                  have HZ1 := Lib.hid hnb
                  clear hcl HPREV HZ r0' hnb
                  cases hnm : nameMay kind
                  · rw [hnm] at HNM
                    have HB := Lib.hid (HZ1.out.trans (show (!nameMay kind || !lessS s kind) = true by rw [hnm]; rfl))
                    clear hnm HZ1
                    refine Flo.region 20 [(0, true), (1, true), (2, false), (3, true), (4, true), (5, true), (6, true), (7, true), (8, true), (9, true), (10, true), (11, true), (12, true), (13, true), (14, true), (15, true), (16, true), (17, true), (18, true), (19, true)] (fun v => Below wa.heap.size wa v) (by kernel_rfl) (by kernel_rfl) rfl hI ?_
                    simp only [List.drop_succ_cons, List.drop_zero]
                    iterate 2 (apply Flo.op rfl (hI := hI); (· intro v hv K hK; obtain ⟨hc, hf⟩ := Flo.bcl hv; go_wp2_with fail; all_goals first | exact Flo.noUndef (by with_reducible assumption) | exact hK); (· rfl))
                    refine Flo.seq rfl fun K hK => ?_
                    go_wp2_with fail
                    refine (HNM.out _).mono ?_
                    rintro e w5 ⟨rfl, rfl⟩
                    go_wp2_with fail
                    refine hK _ _ hI ?_
                    iterate 17 (apply Flo.op rfl (hI := hI); (· intro v hv K hK; obtain ⟨hc, hf⟩ := Flo.bcl hv; go_wp2_with fail; all_goals first | exact Flo.noUndef (by with_reducible assumption) | exact hK); (· rfl))
                    refine Flo.tail fun K hK => ?_
                    go_wp2_with fail
                    go_ret
                    exact RetEB.err (HF.out.trans ((hstop.out (by rw [hat3.out HB.out]; decide)).trans (hat3.out HB.out))) (by omega) (hba.trans (hI.mono hba.size))
                  · cases hls : Op.bytesLess s.toList kind.toList
                    · rw [hnm] at HNM
                      have HB := Lib.hid (HZ1.out.trans (show (!nameMay kind || !lessS s kind) = true by rw [hnm, lessS_eq, hls]; rfl))
                      clear hnm HZ1
                      refine Flo.region 20 [(0, true), (1, true), (2, false), (3, true), (4, true), (5, true), (6, true), (7, true), (8, true), (9, true), (10, true), (11, true), (12, true), (13, true), (14, true), (15, true), (16, true), (17, true), (18, true), (19, true)] (fun v => Below wa.heap.size wa v) (by kernel_rfl) (by kernel_rfl) rfl hI ?_
                      simp only [List.drop_succ_cons, List.drop_zero]
                      iterate 2 (apply Flo.op rfl (hI := hI); (· intro v hv K hK; obtain ⟨hc, hf⟩ := Flo.bcl hv; go_wp2_with fail; all_goals first | exact Flo.noUndef (by with_reducible assumption) | exact hK); (· rfl))
                      refine Flo.seq rfl fun K hK => ?_
                      go_wp2_with fail
                      refine (HNM.out _).mono ?_
                      rintro e w5 ⟨rfl, rfl⟩
                      go_wp2_with fail
                      refine hK _ _ hI ?_
                      iterate 17 (apply Flo.op rfl (hI := hI); (· intro v hv K hK; obtain ⟨hc, hf⟩ := Flo.bcl hv; go_wp2_with fail; all_goals first | exact Flo.noUndef (by with_reducible assumption) | exact hK); (· rfl))
                      refine Flo.tail fun K hK => ?_
                      go_wp2_with fail
                      go_ret
                      exact RetEB.err (HF.out.trans ((hstop.out (by rw [hat3.out HB.out]; decide)).trans (hat3.out HB.out))) (by omega) (hba.trans (hI.mono hba.size))
                    · rw [hnm] at HNM
                      have HB := Lib.hid (HZ1.out.trans (show (!nameMay kind || !lessS s kind) = false by rw [hnm, lessS_eq, hls]; rfl))
                      clear hnm HZ1
                      refine Flo.region 20 [(0, true), (1, true), (2, false), (3, true), (4, true), (5, true), (6, true), (7, true), (8, true), (9, true), (10, true), (11, true), (12, true), (13, true), (14, true), (15, true), (16, true), (17, true), (18, true), (19, true)] (fun v => Below wa.heap.size wa v) (by kernel_rfl) (by kernel_rfl) rfl hI ?_
                      simp only [List.drop_succ_cons, List.drop_zero]
                      iterate 2 (apply Flo.op rfl (hI := hI); (· intro v hv K hK; obtain ⟨hc, hf⟩ := Flo.bcl hv; go_wp2_with fail; all_goals first | exact Flo.noUndef (by with_reducible assumption) | exact hK); (· rfl))
                      refine Flo.seq rfl fun K hK => ?_
                      go_wp2_with fail
                      refine (HNM.out _).mono ?_
                      rintro e w5 ⟨rfl, rfl⟩
                      go_wp2_with fail
                      refine hK _ _ hI ?_
                      iterate 17 (apply Flo.op rfl (hI := hI); (· intro v hv K hK; obtain ⟨hc, hf⟩ := Flo.bcl hv; go_wp2_with fail; all_goals first | exact Flo.noUndef (by with_reducible assumption) | exact hK); (· rfl))
                      refine Flo.tail fun K hK => ?_
                      rcases (show many < 1 ∨ (1 ≤ many ∧ 16 < many) ∨ (1 ≤ many ∧ many ≤ 16) by omega) with hm | ⟨hm, hm'⟩ | ⟨hm, hm'⟩
                      · have HM := Lib.hid (hat1.out HB.out (.inl hm))
                        go_wp2_with fail
                        go_ret
                        exact RetEB.err (HF.out.trans ((hstop.out (by rw [HM.out]; decide)).trans HM.out)) (by omega) (hba.trans (hI.mono hba.size))
                      · have HM := Lib.hid (hat1.out HB.out (.inr hm'))
                        go_wp2_with fail
                        go_ret
                        exact RetEB.err (HF.out.trans ((hstop.out (by rw [HM.out]; decide)).trans HM.out)) (by omega) (hba.trans (hI.mono hba.size))
                      · have HM := Lib.hid (hat0.out HB.out ⟨hm, hm'⟩)
                        go_wp2_with fail
                        go_roundw
                        case rel => exact ⟨k + 1, by first | rfl | go_num, by omega, all_succ hall.out HM.out, b0a.drew, hba.trans (hI.mono hba.size)⟩
                        case measure => simp [intOf] <;> omega
              · obtain rfl : k = c.devs.length := by omega
                have HZ := Lib.hid (firstF_zero hall.out)
                go_wp2_with fail
                go_ret
                exact RetEB.nil (HF.out.trans HZ.out) hbel
end
end Go.Proofs.YticmfflnenoplacGreatDoor
namespace Go.Proofs.YticmfflnenoplacGreatDoor
open Go.RowKit Go.Deep Pop Bi Da Sv
namespace Sv
def amT (m b : Int) : List UInt8 := Lib.itoa m ++ 32 :: Lib.itoa b
def contT (c : Cont) : List UInt8 := wCont ++ 32 :: (c.name.data.toList ++ 32 :: (amT c.askM c.askB ++ 32 :: (amT c.capM c.capB ++ 32 :: needsT c.devs)))
theorem amT_len {m b : Int} (h0 : 0 ≤ m) (h1 : m ≤ 1125899906842624) (h2 : 0 ≤ b) (h3 : b ≤ 1125899906842624) : (amT m b).length ≤ 33 := by
  have := itoa_16 h0 h1
  have := itoa_16 h2 h3
  unfold amT
  rw [List.length_append, List.length_cons]
  omega
theorem needT_len {n : Need} (h : n.kind.size ≤ 8) (h0 : 0 ≤ n.many) (h1 : n.many ≤ 1125899906842624) : (needT n).length ≤ 25 := by
  have := itoa_16 h0 h1
  unfold needT
  rw [List.length_append, List.length_cons, show n.kind.data.toList.length = n.kind.size from by rw [Array.length_toList]; rfl]
  omega
theorem needsT_len {l : List Need} (hl : l.length ≤ 3) (h : ∀ n ∈ l, n.kind.size ≤ 8 ∧ 0 ≤ n.many ∧ n.many ≤ 1125899906842624) : (needsT l).length ≤ 78 := by
  unfold needsT
  split
  · simp
  · refine Nat.le_trans (join_most (k := 25) ?_ 44) (by rw [List.length_map]; omega)
    intro t ht
    obtain ⟨n, hn, rfl⟩ := List.mem_map.1 ht
    exact needT_len (h n hn).1 (h n hn).2.1 (h n hn).2.2
end Sv
theorem RetT.str {l : List UInt8} {s : ByteArray} {w w' : World} (h : s.data.toList = l) (hb : Below w.heap.size w w') : RetT l w (.returned (.string s)) w' := by
  rw [toB_eq h]
  exact ⟨rfl, hb⟩
theorem str_add (a b : ByteArray) : (a ++ b).data.toList = a.data.toList ++ b.data.toList := by simp
theorem size_list (l : List UInt8) : (⟨l.toArray⟩ : ByteArray).size = l.length := rfl
section
attribute [local irreducible] Lib.itoa Lib.join txtV numT needsT needT
set_option maxRecDepth 100000 in
set_option maxHeartbeats 4000000 in
theorem samount_any (m b : Int) (h0 : 0 ≤ m) (h1 : m ≤ 1125899906842624) (h2 : 0 ≤ b) (h3 : b ≤ 1125899906842624) (w : World) (hL : LayS w) :
    Calls Tryz.prog 129 #[.agg #[.int .i64 m, .int .i64 b]] w (RetT (amT m b) w) := by
  have k1 := Blk.new w 65 #[.int .i64 m, .int .i64 b]
  have hw1 := (Below.refl w.heap.size w).alloc (Nat.le_refl _) (.cells #[.int .i64 m, .int .i64 b] 65)
  have HL := Lib.hid hL
  have hl1 := itoa_16 h0 h1
  have hl2 := itoa_16 h2 h3
  have HI1 := Lib.hid (fun W (hW : Below w.heap.size w W) => itoa_any m (by omega) (by omega) W (hL.below hW).lay)
  have HI2 := Lib.hid (fun W (hW : Below w.heap.size w W) => itoa_any b (by omega) (by omega) W (hL.below hW).lay)
  have HE : Hid (amT m b = Lib.itoa m ++ 32 :: Lib.itoa b) := Lib.hid rfl
  generalize Lib.itoa m = t1 at *
  generalize Lib.itoa b = t2 at *
  clear hL
  go_enter Tryz.func129, Tryz.ntmps129
  go_upto_region 1 with fail
  generalize w.alloc (.cells #[.int .i64 m, .int .i64 b] 65) = W1 at *
  have c1 := k1.cells
  have l1 := k1.lt
  have HW1 := Lib.hid hw1
  clear k1 hw1
  have hI : Below W1.heap.size W1 W1.drew := (Below.refl _ _).drew
  refine Flo.region 9 [(0, true), (1, true), (4, true), (5, true), (2, false), (3, true), (6, false), (7, true), (8, true)] (fun v => Below W1.heap.size W1 v) (by kernel_rfl) (by kernel_rfl) rfl hI ?_
  simp only [List.drop_succ_cons, List.drop_zero]
  iterate 4 (apply Flo.op rfl (hI := hI); (· intro v hv K hK; obtain ⟨hc, hf⟩ := Flo.bcl hv; go_wp2_with fail; all_goals first | exact Flo.noUndef (by with_reducible assumption) | exact hK); (· rfl))
  refine Flo.seq rfl fun K hK => ?_
  go_wp2_with fail
  refine (HI1.out _ (HW1.out.trans (hI.mono HW1.out.size))).mono ?_
  rintro e w3 ⟨rfl, hb3⟩
  go_wp2_with fail
  have hI3 : Below W1.heap.size W1 w3 := hI.trans (hb3.mono hI.size)
  refine hK _ _ hI3 ?_
  iterate 1 (apply Flo.op rfl (hI := hI3); (· intro v hv K hK; obtain ⟨hc, hf⟩ := Flo.bcl hv; go_wp2_with fail; all_goals first | exact Flo.noUndef (by with_reducible assumption) | exact hK); (· rfl))
  refine Flo.seq rfl fun K hK => ?_
  go_wp2_with fail
  refine (HI2.out _ (HW1.out.trans (hI3.mono HW1.out.size))).mono ?_
  rintro e w4 ⟨rfl, hb4⟩
  go_wp2_with fail
  have hI4 : Below W1.heap.size W1 w4 := hI3.trans (hb4.mono hI3.size)
  refine hK _ _ hI4 ?_
  iterate 2 (apply Flo.op rfl (hI := hI4); (· intro v hv K hK; obtain ⟨hc, hf⟩ := Flo.bcl hv; go_wp2_with fail; all_goals first | exact Flo.noUndef (by with_reducible assumption) | exact hK); (· rfl))
  refine Flo.tail fun K hK => ?_
  go_wp2_with fail
  go_ret
  exact RetT.str (by rw [HE.out, str_add, str_add, List.append_assoc]; rfl) (HW1.out.trans (hI4.mono HW1.out.size))
set_option maxRecDepth 100000 in
set_option maxHeartbeats 4000000 in
theorem sset_any (x : Nat) (hx : x < 18446744073709551616) (w : World) (hL : LayS w) : Calls Tryz.prog 91 #[.int .u64 x] w (RetT (setT x) w) := by
  by_cases h0 : x = 0
  · subst h0
    go_enter Tryz.func91, Tryz.ntmps91
    go_wp2_with fail
    go_ret
    exact RetT.of (m := [45]) (by unfold setT; rfl) (Below.refl _ _)
  · have HT := Lib.hid (Text_any x hx w hL)
    have HE : Hid (setT x = textP x) := Lib.hid (by unfold setT; rw [if_neg h0])
    have hx1 : (x : Int) ≠ 0 := by omega
    generalize textP x = t at *
    go_enter Tryz.func91, Tryz.ntmps91
    go_wp2_with fail
    refine HT.out.mono ?_
    rintro e w3 ⟨rfl, hb3⟩
    go_wp2_with fail
    go_ret
    exact RetT.of HE.out hb3
set_option maxRecDepth 100000 in
set_option maxHeartbeats 4000000 in
theorem sneeds_any (v : Value) (l : List Need) (B : Nat) (w : World) (hB : B ≤ w.heap.size) (hR : RSlice w B 2 RNeed [v] l) (hl : l.length ≤ 3) (hn : ∀ n ∈ l, n.kind.size ≤ 8 ∧ 0 ≤ n.many ∧ n.many ≤ 1125899906842624) (hL : LayS w) :
    Calls Tryz.prog 130 #[v] w (RetT (needsT l) w) := by
  obtain ⟨A, cap, hv, hcl, hcap, hA⟩ := (RS.of hR).form
  obtain rfl : v = _ := by simpa using hv
  unfold maxLen at hcap
  have HA := Lib.hid hA
  have HR := Lib.hid hR
  have HN := Lib.hid hn
  have HL := Lib.hid hL
  have HNE := Lib.hid (fun (h : l ≠ []) => needsT_ne h)
  have HNI := Lib.hid (fun (h : l = []) => needsT_nil h)
  have HK : Hid (∀ t ∈ l.map needT, t.length ≤ 25) := Lib.hid (by
    intro t ht
    obtain ⟨n, hm, rfl⟩ := List.mem_map.1 ht
    exact needT_len (hn n hm).1 (hn n hm).2.1 (hn n hm).2.2)
  have HLM : Hid ((l.map needT).length = l.length) := Lib.hid (by simp)
  have HT0 : Hid ((l.take 0).map needT = []) := Lib.hid rfl
  have HTS := Lib.hid (fun m (h : m < l.length) => map_take_succ needT l h)
  have HTA : Hid ((l.take l.length).map needT = l.map needT) := Lib.hid (by rw [List.take_length])
  have HLZ : Hid (l.length = 0 → l = []) := Lib.hid List.length_eq_zero_iff.1
  clear hR hv hA hn hL
  go_enter Tryz.func130, Tryz.ntmps130
  go_wp2_with fail
  go_loopw [3, 8] (fun o i wi => ∃ (m : Nat) (A2 : Option Addr) (c2 : Nat), i = .int .i64 m ∧ m ≤ l.length ∧ o = .slice A2 m c2 ∧ Hid (wi.ownsRow w.heap.size 9 1 (.slice A2 m c2) m (txtV ((l.take m).map needT))) ∧ Below w.heap.size w wi) (fun _ i _ => l.length - (intOf i).toNat)
  case atStart => exact ⟨0, none, 0, rfl, by omega, rfl, Lib.hid (by rw [HT0.out, txtV_nil]; exact World.ownsRow_nil _ _ _ _), Below.refl _ _⟩
  case round =>
    obtain ⟨m, A2, c2, rfl, hm, rfl, HO, hb⟩ := hrel
    clear HT0
    by_cases hlt : m < l.length
    · obtain ⟨b, off, rfl, hbB⟩ := HA.out m hlt
      obtain ⟨c0, c1, b1, b2, b3⟩ := need_at (HR.out.below (hb.mono hB)) hlt
      have hx := HN.out _ (List.getElem_mem hlt)
      have HSN := Lib.hid (HTS.out m hlt)
      have HI := Lib.hid (fun W (hW : Below w.heap.size w W) => itoa_any l[m].many (by omega) (by omega) W (HL.out.below hW).lay)
      have hil := itoa_16 hx.2.1 hx.2.2
      have HNT : Hid (needT l[m] = l[m].kind.data.toList ++ 58 :: Lib.itoa l[m].many) := Lib.hid (by unfold needT; rfl)
      have hb' : b < wr.heap.size := Nat.lt_of_lt_of_le hbB (Nat.le_trans hB hb.size)
      generalize needT l[m] = nt at *
      generalize l[m] = x at *
      obtain ⟨kind, many⟩ := x
      dsimp only at *
      obtain ⟨t, ht⟩ : ∃ t, t = Lib.itoa many := ⟨_, rfl⟩
      rw [← ht] at HNT HI hil
      clear ht
      obtain ⟨hk8, hm0, hm1⟩ := hx
      go_upto_region 5 with fail
      have b9 := Blk.new wr 128 #[.string kind, .int .i64 many]
      have hb2 := hb.alloc hb.size (.cells #[.string kind, .int .i64 many] 128)
      have HO2 := Lib.hid (HO.out.alloc (.cells #[.string kind, .int .i64 many] 128))
      clear c0 c1 HO
      generalize wr.alloc (.cells #[.string kind, .int .i64 many] 128) = wa at *
      generalize wr.heap.size = pn at *
      have e9 := b9.cells
      have z9 := b9.lt
      have HB2 := Lib.hid hb2
      clear hb2 hb b9
      have hI : Below wa.heap.size wa wa.drew := (Below.refl _ _).drew
      refine Flo.region 9 [(0, true), (1, true), (2, true), (3, true), (4, true), (5, true), (6, false), (7, true), (8, false)] (fun v => Below wa.heap.size wa v) (by kernel_rfl) (by kernel_rfl) rfl hI ?_
      simp only [List.drop_succ_cons, List.drop_zero]
      iterate 6 (apply Flo.op rfl (hI := hI); (· intro v hv K hK; obtain ⟨hc, hf⟩ := Flo.bcl hv; go_wp2_with fail; all_goals first | exact Flo.noUndef (by with_reducible assumption) | exact hK); (· rfl))
      refine Flo.seq rfl fun K hK => ?_
      go_wp2_with fail
      refine (HI.out _ (HB2.out.trans (hI.mono HB2.out.size))).mono ?_
      rintro e w6 ⟨rfl, hb6⟩
      go_wp2_with fail
      have hI6 : Below wa.heap.size wa w6 := hI.trans (hb6.mono hI.size)
      refine hK _ _ hI6 ?_
      iterate 1 (apply Flo.op rfl (hI := hI6); (· intro v hv K hK; obtain ⟨hc, hf⟩ := Flo.bcl hv; go_wp2_with fail; all_goals first | exact Flo.noUndef (by with_reducible assumption) | exact hK); (· rfl))
      have hb6' := HB2.out.trans (hI6.mono HB2.out.size)
      have HO6 := Lib.hid (own_below HO2.out hI6)
      have HST : Hid (kind ++ ⟨#[58]⟩ ++ ⟨t.toArray⟩ = (⟨nt.toArray⟩ : ByteArray)) := Lib.hid (toB_eq (by rw [HNT.out, str_add, str_add, List.append_assoc]; rfl))
      rw [HST.out]
      refine Flo.seq rfl fun K hK => ?_
      go_wp2_with fail
      refine hK _ _ (hI6.alloc hI6.size _) ?_
      clear HO2 HB2 hb6 hI hI6 hK
      refine Flo.tail fun K hK => ?_
      go_wp2_with (at_builtin; refine wpList_app _ strT rfl (.tmp 12) (.tmp 20) rfl w.heap.size (.slice A2 m c2) m (txtV ((l.take m).map needT)) rfl (by exact HO6.out.alloc _) ⟨w6.heap.size, 0, none⟩ 1 1 [.string ⟨nt.toArray⟩] rfl rfl (news_new w6 _ _) (by simp [Value.oneCell']) (by omega) (by unfold maxLen; omega) (by omega) (by have := hb6'.size; simp; omega) ?_; intro g9 c9 w9 hown9 hgr9 hat9 hlt9)
      rw [← txtV_snoc, ← HSN.out] at hown9
      have HO9 := Lib.hid hown9
      have hba := hb6'.alloc hb6'.size (.cells #[.string ⟨nt.toArray⟩] 9)
      have hb9 : Below w.heap.size w w9 := hba.grown hgr9 hba.size (fun q hq => (HO6.out.lt q hq).1)
      clear hown9 hgr9 hat9 hlt9 hba HO6
      go_wp2_with fail
      go_roundw
      case rel => exact ⟨m + 1, some ⟨g9, 0, none⟩, c9, by go_num, by omega, rfl, HO9, hb9⟩
      case measure => simp [intOf]; omega
    · obtain rfl : m = l.length := by omega
      by_cases h0 : l.length = 0
      · have HE := Lib.hid (HNI.out (HLZ.out h0))
        go_wp2_with fail
        go_ret
        exact RetT.of HE.out hb
      · have HE := Lib.hid (HNE.out (fun h => h0 (by rw [h]; rfl)))
        have HJ := Lib.hid (joinL_any A2 c2 l.length (l.map needT) w.heap.size wr HLM.out.symm (by have := HO.out; rw [HTA.out] at this; exact this) (by omega) HK.out (by rw [HLM.out]; omega))
        clear HO
        go_wp2_with fail
        refine HJ.out.mono ?_
        rintro e w5 ⟨rfl, hb5⟩
        go_wp2_with fail
        go_ret
        exact RetT.of HE.out (hb.trans (hb5.mono hb.size))
end
end Go.Proofs.YticmfflnenoplacGreatDoor
namespace Go.Proofs.YticmfflnenoplacGreatDoor
open Go.RowKit Go.Deep Pop Bi Da Sv
section
attribute [local irreducible] Lib.itoa Lib.join txtV numT needsT needT amT
set_option maxRecDepth 100000 in
set_option maxHeartbeats 4000000 in
theorem contText_any (c : Cont) (dv : Value) (B : Nat) (w : World) (hB : B ≤ w.heap.size) (hR : RSlice w B 2 RNeed [dv] c.devs) (hl : c.devs.length ≤ 3) (hn : ∀ n ∈ c.devs, n.kind.size ≤ 8 ∧ 0 ≤ n.many ∧ n.many ≤ 1125899906842624)
    (hs : c.name.size ≤ 8) (a0 : 0 ≤ c.askM) (a1 : c.askM ≤ 1125899906842624) (a2 : 0 ≤ c.askB) (a3 : c.askB ≤ 1125899906842624) (a4 : 0 ≤ c.capM) (a5 : c.capM ≤ 1125899906842624) (a6 : 0 ≤ c.capB) (a7 : c.capB ≤ 1125899906842624) (hL : LayS w) :
    Calls Tryz.prog 90 #[.agg #[.string c.name, .int .i64 c.askM, .int .i64 c.askB, .int .i64 c.capM, .int .i64 c.capB, dv]] w (RetT (contT c) w) := by
  obtain ⟨A, cap, hv, hcl, hcap, hA⟩ := (RS.of hR).form
  obtain rfl : dv = _ := by simpa using hv
  unfold maxLen at hcap
  have HE : Hid (contT c = wCont ++ 32 :: (c.name.data.toList ++ 32 :: (amT c.askM c.askB ++ 32 :: (amT c.capM c.capB ++ 32 :: needsT c.devs)))) := Lib.hid rfl
  have HI1 := Lib.hid (fun W (hW : Below w.heap.size w W) => samount_any c.askM c.askB a0 a1 a2 a3 W (hL.below hW))
  have HI2 := Lib.hid (fun W (hW : Below w.heap.size w W) => samount_any c.capM c.capB a4 a5 a6 a7 W (hL.below hW))
  have HI3 := Lib.hid (fun W (hW : Below w.heap.size w W) => sneeds_any (.slice A c.devs.length cap) c.devs B W (Nat.le_trans hB hW.size) (hR.below (hW.mono hB)) hl hn (hL.below hW))
  have l1 := amT_len a0 a1 a2 a3
  have l2 := amT_len a4 a5 a6 a7
  have l3 := needsT_len hl hn
  generalize amT c.askM c.askB = t1 at *
  generalize amT c.capM c.capB = t2 at *
  generalize needsT c.devs = t3 at *
  clear hR hv hA hn hL hl
  obtain ⟨name, askM, askB, capM, capB, devs⟩ := c
  dsimp only at *
  have k1 := Blk.new w 73 #[.string name, .int .i64 askM, .int .i64 askB, .int .i64 capM, .int .i64 capB, .slice A devs.length cap]
  have hw1 := (Below.refl w.heap.size w).alloc (Nat.le_refl _) (.cells #[.string name, .int .i64 askM, .int .i64 askB, .int .i64 capM, .int .i64 capB, .slice A devs.length cap] 73)
  generalize devs.length = dl at *
  go_enter Tryz.func90, Tryz.ntmps90
  go_upto_region 1 with fail
  generalize w.alloc (.cells #[.string name, .int .i64 askM, .int .i64 askB, .int .i64 capM, .int .i64 capB, .slice A dl cap] 73) = W1 at *
  have c1 := k1.cells
  have z1 := k1.lt
  have HW1 := Lib.hid hw1
  clear k1 hw1
  have hI : Below W1.heap.size W1 W1.drew := (Below.refl _ _).drew
  refine Flo.region 19 [(0, true), (1, true), (2, true), (3, true), (4, true), (5, true), (9, true), (10, true), (14, true), (15, true), (6, false), (7, true), (8, true), (11, false), (12, true), (13, true), (16, false), (17, true), (18, true)] (fun v => Below W1.heap.size W1 v) (by kernel_rfl) (by kernel_rfl) rfl hI ?_
  simp only [List.drop_succ_cons, List.drop_zero]
  iterate 10 (apply Flo.op rfl (hI := hI); (· intro v hv K hK; obtain ⟨hc, hf⟩ := Flo.bcl hv; go_wp2_with fail; all_goals first | exact Flo.noUndef (by with_reducible assumption) | exact hK); (· rfl))
  refine Flo.seq rfl fun K hK => ?_
  go_wp2_with fail
  refine (HI1.out _ (HW1.out.trans (hI.mono HW1.out.size))).mono ?_
  rintro e w3 ⟨rfl, hb3⟩
  go_wp2_with fail
  have hI3 : Below W1.heap.size W1 w3 := hI.trans (hb3.mono hI.size)
  refine hK _ _ hI3 ?_
  iterate 2 (apply Flo.op rfl (hI := hI3); (· intro v hv K hK; obtain ⟨hc, hf⟩ := Flo.bcl hv; go_wp2_with fail; all_goals first | exact Flo.noUndef (by with_reducible assumption) | exact hK); (· rfl))
  refine Flo.seq rfl fun K hK => ?_
  go_wp2_with fail
  refine (HI2.out _ (HW1.out.trans (hI3.mono HW1.out.size))).mono ?_
  rintro e w4 ⟨rfl, hb4⟩
  go_wp2_with fail
  have hI4 : Below W1.heap.size W1 w4 := hI3.trans (hb4.mono hI3.size)
  refine hK _ _ hI4 ?_
  iterate 2 (apply Flo.op rfl (hI := hI4); (· intro v hv K hK; obtain ⟨hc, hf⟩ := Flo.bcl hv; go_wp2_with fail; all_goals first | exact Flo.noUndef (by with_reducible assumption) | exact hK); (· rfl))
  refine Flo.seq rfl fun K hK => ?_
  go_wp2_with fail
  refine (HI3.out _ (HW1.out.trans (hI4.mono HW1.out.size))).mono ?_
  rintro e w5 ⟨rfl, hb5⟩
  go_wp2_with fail
  have hI5 : Below W1.heap.size W1 w5 := hI4.trans (hb5.mono hI4.size)
  refine hK _ _ hI5 ?_
  iterate 2 (apply Flo.op rfl (hI := hI5); (· intro v hv K hK; obtain ⟨hc, hf⟩ := Flo.bcl hv; go_wp2_with fail; all_goals first | exact Flo.noUndef (by with_reducible assumption) | exact hK); (· rfl))
  refine Flo.tail fun K hK => ?_
  go_wp2_with fail
  go_ret
  exact RetT.str (by rw [HE.out]; simp only [str_add, List.append_assoc]; rfl) (HW1.out.trans (hI5.mono HW1.out.size))
end
end Go.Proofs.YticmfflnenoplacGreatDoor
namespace Go.Proofs.YticmfflnenoplacGreatDoor
open Go.RowKit Go.Deep Pop Bi Da Sv
theorem sum_step (q : Nat) (c : UInt8) (hq : q < 4294967296) : Value.int IntKind.u32 (bits BinOp.xor IntKind.u32 (q : Int) ((c.toNat : Int) % 4294967296) * 16777619 % 4294967296) = Value.int IntKind.u32 (sumS q c : Nat) := by
  have hc : c.toNat < 256 := c.toNat_lt
  rw [show ((c.toNat : Int) % 4294967296) = (c.toNat : Int) from by omega, u32_xor_nat q c.toNat hq (by omega)]
  unfold sumS
  generalize q ^^^ c.toNat = z
  rw [show ((z * 16777619 % 4294967296 : Nat) : Int) = (z : Int) * 16777619 % 4294967296 from by omega]
section
attribute [local irreducible] sumP sumS
set_option maxRecDepth 100000 in
set_option maxHeartbeats 4000000 in
theorem Sum_any (s : ByteArray) (hs : s.size ≤ 1000000) (w : World) :
    Calls Tryz.prog 95 #[.string s] w (fun e w' => e = .returned (.int .u32 (sumP s.data.toList : Nat)) ∧ w' = w) := by
  have HTA : Hid (s.data.toList.take s.size = s.data.toList) := Lib.hid (List.take_of_length_le (by rw [Array.length_toList]; exact Nat.le_refl _))
  have HT0 : Hid ((2166136261 : Int) = (sumP (s.data.toList.take 0) : Nat)) := Lib.hid (by rw [List.take_zero]; unfold sumP; rfl)
  have HTS : Hid (∀ m (h : m < s.size), sumP (s.data.toList.take (m + 1)) = sumS (sumP (s.data.toList.take m)) s[m]) := Lib.hid (fun m h => by
    have h' : m < s.data.toList.length := by rw [Array.length_toList]; exact h
    rw [List.take_succ_eq_append_getElem h', sumP_snoc]; rfl)
  have HLT := Lib.hid (fun m => sumP_lt (s.data.toList.take m))
  go_enter Tryz.func95, Tryz.ntmps95
  go_wp2_with fail
  go_loop [3, 7] (fun h i => ∃ (m q : Nat), i = .int .i64 m ∧ m ≤ s.size ∧ h = .int .u32 q ∧ Hid (q = sumP (s.data.toList.take m))) (fun _ i => s.size - (intOf i).toNat)
  case atStart => exact ⟨0, 2166136261, rfl, by omega, rfl, Lib.hid (by have := HT0.out; omega)⟩
  case round =>
    obtain ⟨m, q, rfl, hm, rfl, HQ⟩ := hrel
    clear HT0
    by_cases hlt : m < s.size
    · have HSN := Lib.hid (HTS.out m hlt)
      have hql : q < 4294967296 := by rw [HQ.out]; exact HLT.out m
      go_wp2_with fail
      go_round
      case rel => exact ⟨m + 1, sumS q s[m], by go_num, by omega, sum_step q _ hql, Lib.hid (by rw [HSN.out, HQ.out])⟩
      case measure => simp [intOf]; omega
    · obtain rfl : m = s.size := by omega
      go_wp2_with fail
      go_ret
      exact ⟨by rw [HQ.out, HTA.out]; rfl, rfl⟩
end
end Go.Proofs.YticmfflnenoplacGreatDoor
namespace Go.Proofs.YticmfflnenoplacGreatDoor
open Go.RowKit Qo Da
theorem atFault_name (l : List Cont) (k : Nat) (h : k < l.length) (hb : nameMay l[k].name = false) : atFault l k = 3 := by
  rw [atFault_at l k h, hb]; rfl
theorem atFault_twice (l : List Cont) (k : Nat) (h : k < l.length) (hb : nameMay l[k].name = true) (ht : twice l k l[k].name = true) : atFault l k = 5 := by
  rw [atFault_at l k h, hb, ht]; rfl
theorem atFault_cont (l : List Cont) (k : Nat) (h : k < l.length) (hb : nameMay l[k].name = true) (ht : twice l k l[k].name = false) : atFault l k = contFault l[k] := by
  rw [atFault_at l k h, hb, ht]; rfl
theorem podFault_name {p : Pod} (h : nameMay p.name = false) : podFault p = 3 := by
  unfold podFault; rw [h]; rfl
theorem podFault_prio {p : Pod} (h : nameMay p.name = true) (h2 : p.prio < 0 ∨ 1000 < p.prio) : podFault p = 1 := by
  unfold podFault; rw [h, if_neg (by simp), if_pos h2]
theorem podFault_many {p : Pod} (h : nameMay p.name = true) (h2 : 0 ≤ p.prio ∧ p.prio ≤ 1000) (h3 : p.conts.length < 1 ∨ 3 < p.conts.length) : podFault p = 2 := by
  unfold podFault; rw [h, if_neg (by simp), if_neg (by omega), if_pos h3]
theorem podFault_conts {p : Pod} (h : nameMay p.name = true) (h2 : 0 ≤ p.prio ∧ p.prio ≤ 1000) (h3 : 1 ≤ p.conts.length ∧ p.conts.length ≤ 3) : podFault p = firstF (atFault p.conts) p.conts.length := by
  unfold podFault; rw [h, if_neg (by simp), if_neg (by omega), if_neg (by omega)]
def contCells (c : Cont) (dv : Value) : List Value := [.string c.name, .int .i64 c.askM, .int .i64 c.askB, .int .i64 c.capM, .int .i64 c.capB, dv]
theorem cont_at {w w' : World} {B b off n cap : Nat} {l : List Cont} (h : RSlice w B 6 (RCont w B) [.slice (some ⟨b, off, none⟩) n cap] l) (hb : Below B w w') {k : Nat} (hk : k < l.length) :
    b < B ∧ ∃ A2 c2, RCont w' B (contCells l[k] (.slice A2 l[k].devs.length c2)) l[k] ∧ l[k].name.size ≤ maxLen ∧ (∀ j u, (contCells l[k] (.slice A2 l[k].devs.length c2))[j]? = some u → w'.cell? ⟨b, off + k * 6 + j, none⟩ = some u) := by
  obtain ⟨hlt, cs', q1, q2, q3⟩ := (h.below hb).at_ hk
  have q3' := q3.below hb
  obtain ⟨A2, c2, e, hn, _⟩ := cont_cells q3
  rw [e] at q2 q3'
  exact ⟨hlt, A2, c2, q3', hn, q2⟩
section
attribute [local irreducible] nameMay atFault contFault twice firstF podFault RCont RSlice
set_option maxRecDepth 100000 in
set_option maxHeartbeats 8000000 in
theorem Check_any (p : Pod) (cs : List Value) (B : Nat) (w : World) (hB : B ≤ w.heap.size) (hR : RPod w B cs p) :
    Calls Tryz.prog 31 #[.agg cs.toArray] w (RetEB (podFault p) w) := by
  obtain ⟨cv, rfl, hps, hpr, hC⟩ := hR
  obtain ⟨A, cap, e, hl, hcap, hA⟩ := RS.form (RS.of hC)
  obtain rfl : cv = _ := by simpa using e
  have HNM := Lib.hid (fun W => Name_any p.name hps W)
  unfold maxLen at hcap hps
  have HC := Lib.hid hC
  have HA := Lib.hid hA
  clear hC hA e
  obtain ⟨pn, pr, conts⟩ := p
  dsimp only at *
  have k0 := Blk.new w 45 #[.string pn, .int .i64 pr, .slice A conts.length cap]
  have hbel : Below w.heap.size w (w.alloc (.cells #[.string pn, .int .i64 pr, .slice A conts.length cap] 45)) := (Below.refl _ _).alloc (Nat.le_refl _) _
  go_enter Tryz.func31, Tryz.ntmps31
  cases hnm : nameMay pn
  · have HF := Lib.hid (podFault_name (p := ⟨pn, pr, conts⟩) hnm)
    rw [hnm] at HNM
    clear hnm
    go_wp2_with fail
    refine (HNM.out _).mono ?_
    rintro e w5 ⟨rfl, rfl⟩
    go_wp2_with fail
    go_ret
    exact RetEB.err HF.out (by omega) hbel
  · have HN := Lib.hid hnm
    rw [hnm] at HNM
    clear hnm
    rcases (show (pr < 0 ∨ (0 ≤ pr ∧ 1000 < pr)) ∨ (0 ≤ pr ∧ pr ≤ 1000) by omega) with hd | ⟨hp1, hp2⟩
    · have HF := Lib.hid (podFault_prio (p := ⟨pn, pr, conts⟩) HN.out (show pr < 0 ∨ 1000 < pr by omega))
      rcases hd with hd | ⟨hd1, hd2⟩
      all_goals
        go_wp2_with fail
        refine (HNM.out _).mono ?_
        rintro e w5 ⟨rfl, rfl⟩
        go_wp2_with fail
        go_ret
        exact RetEB.err HF.out (by omega) hbel
    · rcases (show (conts.length < 1 ∨ (1 ≤ conts.length ∧ 3 < conts.length)) ∨ (1 ≤ conts.length ∧ conts.length ≤ 3) by omega) with hd | ⟨hc1, hc2⟩
      · have HF := Lib.hid (podFault_many (p := ⟨pn, pr, conts⟩) HN.out ⟨hp1, hp2⟩ (show conts.length < 1 ∨ 3 < conts.length by omega))
        rcases hd with hd | ⟨hd1, hd2⟩
        all_goals
          go_wp2_with fail
          refine (HNM.out _).mono ?_
          rintro e w5 ⟨rfl, rfl⟩
          go_wp2_with fail
          go_ret
          exact RetEB.err HF.out (by omega) hbel
      · have HF := Lib.hid (podFault_conts (p := ⟨pn, pr, conts⟩) HN.out ⟨hp1, hp2⟩ ⟨hc1, hc2⟩)
        go_wp2_with fail
        refine (HNM.out _).mono ?_
        rintro e w5 ⟨rfl, rfl⟩
        go_upto_region 8 with fail
        generalize w.alloc (.cells #[.string pn, .int .i64 pr, .slice A conts.length cap] 45) = w1 at *
        go_loopw [36] (fun i wi => ∃ k : Nat, i = .int .i64 k ∧ k ≤ conts.length ∧ Hid (∀ j, j < k → atFault conts j = 0) ∧ Blk wi w.heap.size 45 #[.string pn, .int .i64 pr, .slice A conts.length cap] ∧ Below w.heap.size w wi) (fun i _ => conts.length - (intOf i).toNat)
        case atStart => exact ⟨0, rfl, by omega, fun j hj => by omega, k0, hbel⟩
        case round =>
          clear k0 hbel
          obtain ⟨k, rfl, hk, hall, b0, hbel⟩ := hrel
          by_cases hlt : k < conts.length
          · obtain ⟨b, off, rfl, hb⟩ := HA.out k hlt
            obtain ⟨_, A2, c2, hrc, hks, hcell⟩ := cont_at HC.out (hbel.mono hB) hlt
            have hstop := Lib.hid (firstF_stop hall.out hlt)
            have han := Lib.hid (atFault_name conts k hlt)
            have hat := Lib.hid (atFault_twice conts k hlt)
            have hac := Lib.hid (atFault_cont conts k hlt)
            have HRC := Lib.hid hrc
            have hz0 := b0.lt
            have e0 := b0.cells
            have hbw : b < wr.heap.size := by have := hbel.size; omega
            have hN2 := fun W => Name_any conts[k].name hks W
            unfold maxLen at hks
            have r0 := hcell 0 _ rfl
            have r1 := hcell 1 _ rfl
            have r2 := hcell 2 _ rfl
            have r3 := hcell 3 _ rfl
            have r4 := hcell 4 _ rfl
            have r5 := hcell 5 _ rfl
            rw [Nat.add_zero] at r0
            clear hcell hrc
            generalize conts[k] = c at *
            have HN2 := Lib.hid hN2
            clear hN2
            go_upto_region 10 with fail
            have hba : Below w.heap.size w (wr.alloc (.cells #[.string c.name, .int .i64 c.askM, .int .i64 c.askB, .int .i64 c.capM, .int .i64 c.capB, .slice A2 c.devs.length c2] 73)) := hbel.alloc hbel.size _
            have hbr : Below wr.heap.size wr (wr.alloc (.cells #[.string c.name, .int .i64 c.askM, .int .i64 c.askB, .int .i64 c.capM, .int .i64 c.capB, .slice A2 c.devs.length c2] 73)) := (Below.refl _ _).alloc (Nat.le_refl _) _
            have b0a := b0.alloc (.cells #[.string c.name, .int .i64 c.askM, .int .i64 c.askB, .int .i64 c.capM, .int .i64 c.capB, .slice A2 c.devs.length c2] 73)
            have b9 := Blk.new wr 73 #[.string c.name, .int .i64 c.askM, .int .i64 c.askB, .int .i64 c.capM, .int .i64 c.capB, .slice A2 c.devs.length c2]
            have hpk : w.heap.size ≤ wr.heap.size := hbel.size
            have HRA := Lib.hid (RCont.below HRC.out (hbr.mono (Nat.le_trans hB hbel.size)))
            clear r0 r1 r2 r3 r4 r5 e0 b0 hbr hbel HRC
            generalize wr.alloc (.cells #[.string c.name, .int .i64 c.askM, .int .i64 c.askB, .int .i64 c.capM, .int .i64 c.capB, .slice A2 c.devs.length c2] 73) = wa at *
            generalize wr.heap.size = pk at *
            have e0 := b0a.cells
            have z0 := b0a.lt
            have e9 := b9.cells
            have z9 := b9.lt
            cases hnm : nameMay c.name
            · rw [hnm] at HN2
              have HM := Lib.hid (han.out hnm)
              clear hnm
              go_wp2_with fail
              refine (HN2.out _).mono ?_
              rintro e w5 ⟨rfl, rfl⟩
              go_wp2_with fail
              go_ret
              exact RetEB.err (HF.out.trans ((hstop.out (by rw [HM.out]; decide)).trans HM.out)) (by omega) hba
            · rw [hnm] at HN2
              have HM := Lib.hid hnm
              clear hnm
              go_wp2_with fail
              refine (HN2.out _).mono ?_
              rintro e w5 ⟨rfl, rfl⟩
              go_upto_region 13 with fail
              go_loopw [51] (fun i wi => ∃ j : Nat, i = .int .i64 j ∧ j ≤ k ∧ Hid (twice conts j c.name = false) ∧ Blk wi w.heap.size 45 #[.string pn, .int .i64 pr, .slice (some ⟨b, off, none⟩) conts.length cap] ∧ Blk wi pk 73 #[.string c.name, .int .i64 c.askM, .int .i64 c.askB, .int .i64 c.capM, .int .i64 c.capB, .slice A2 c.devs.length c2] ∧ Below wa.heap.size wa wi) (fun i _ => k - (intOf i).toNat)
              case atStart => exact ⟨0, rfl, by omega, twice_zero _ _, b0a, b9, Below.refl _ _⟩
              case round =>
                clear b0a b9 e0 e9
                obtain ⟨j, rfl, hj, htw, b0, b9, hbi⟩ := hrel
                have e0 := b0.cells
                have z0' := b0.lt
                have e9 := b9.cells
                have z9' := b9.lt
                have hbi0 := hba.trans (hbi.mono hba.size)
                have hbwi : b < wr.heap.size := by have := hbi.size; omega
                by_cases hjk : j < k
                · obtain ⟨_, A3, c3, hrc3, hks3, hcell3⟩ := cont_at HC.out (hbi0.mono hB) (show j < conts.length by omega)
                  have hnx := Lib.hid (twice_next conts j (by omega) c.name)
                  have hmono := Lib.hid (twice_mono conts (j + 1) k (by omega) c.name)
                  unfold maxLen at hks3
                  have r0 := hcell3 0 _ rfl
                  have r1 := hcell3 1 _ rfl
                  have r2 := hcell3 2 _ rfl
                  have r3 := hcell3 3 _ rfl
                  have r4 := hcell3 4 _ rfl
                  have r5 := hcell3 5 _ rfl
                  rw [Nat.add_zero] at r0
                  clear hcell3 hrc3
                  generalize conts[j] = d at *
                  have hald : Below wr.heap.size wr (wr.alloc (.cells #[.string d.name, .int .i64 d.askM, .int .i64 d.askB, .int .i64 d.capM, .int .i64 d.capB, .slice A3 d.devs.length c3] 73)) := (Below.refl _ _).alloc (Nat.le_refl _) _
                  cases hs : d.name.toList == c.name.toList
                  · have HS := Lib.hid (show twice conts (j + 1) c.name = false by rw [hnx.out, htw.out]; exact hs)
                    go_wp2_with fail
                    go_roundw
                    case rel => exact ⟨j + 1, by go_num, by omega, HS.out, b0.below hald z0', b9.below hald z9', hbi.trans (hald.mono hbi.size)⟩
                    case measure => simp [intOf]; omega
                  · have HS := Lib.hid (hmono.out (show twice conts (j + 1) c.name = true by rw [hnx.out, htw.out]; exact hs))
                    have HT := Lib.hid (hat.out HM.out HS.out)
                    go_wp2_with fail
                    go_ret
                    exact RetEB.err (HF.out.trans ((hstop.out (by rw [HT.out]; decide)).trans HT.out)) (by omega) (hbi0.trans (hald.mono hbi0.size))
                · obtain rfl : j = k := by omega
                  have HT := Lib.hid (hac.out HM.out htw.out)
                  have hcf := Lib.hid (cont_any c _ B wr (Nat.le_trans hB hbi0.size) (HRA.out.below (hbi.mono (by have := hba.size; omega))))
                  have hd : contFault c = 0 ∨ contFault c ≠ 0 := by omega
                  rcases hd with hd | hd
                  · rw [hd] at hcf HT
                    have HZ := Lib.hid (all_succ hall.out HT.out)
                    clear hd
                    go_wp2_with fail
                    refine hcf.out.mono ?_
                    rintro e w6 ⟨rfl, hb6⟩
                    rw [errV_0]
                    go_wp2_with fail
                    go_roundw
                    case rel => exact ⟨j + 1, by go_num, by omega, HZ.out, b0.below hb6 z0', hbi0.trans (hb6.mono hbi0.size)⟩
                    case measure => simp [intOf]; omega
                  · have HE := Lib.hid (HF.out.trans ((hstop.out (by rw [HT.out]; exact hd)).trans HT.out))
                    have HDN := Lib.hid hd
                    generalize contFault c = f at *
                    go_wp2_with fail
                    refine hcf.out.mono ?_
                    rintro e w6 ⟨rfl, hb6⟩
                    rw [errV_pos f HDN.out]
                    go_wp2_with fail
                    go_ret
                    exact RetEB.err HE.out HDN.out (hbi0.trans (hb6.mono hbi0.size))
          · obtain rfl : k = conts.length := by omega
            have HZ := Lib.hid (firstF_zero hall.out)
            go_wp2_with fail
            go_ret
            exact RetEB.nil (HF.out.trans HZ.out) hbel
end
end Go.Proofs.YticmfflnenoplacGreatDoor
namespace Go.Proofs.YticmfflnenoplacGreatDoor
open Go.RowKit Go.Deep Pop Bi Da Sv Qo
def RGiven (w : World) (B : Nat) (cs : List Value) (g : Given) : Prop :=
  ∃ dv, cs = [.int .u64 g.cpus, dv] ∧ g.cpus < 18446744073709551616 ∧ RSlice w B 1 RInt [dv] g.devs
def RHeld (w : World) (B : Nat) (cs : List Value) (h : Held) : Prop :=
  ∃ cv gv, cs = [.string h.pod.name, .int .i64 h.pod.prio, cv, gv] ∧ RPod w B [.string h.pod.name, .int .i64 h.pod.prio, cv] h.pod ∧ RSlice w B 2 (RGiven w B) [gv] h.given
theorem RGiven.below {w w' : World} {B : Nat} {cs : List Value} {g : Given} (h : RGiven w B cs g) (hb : Below B w w') : RGiven w' B cs g := by
  obtain ⟨dv, h1, h2, h3⟩ := h
  exact ⟨dv, h1, h2, h3.below hb⟩
theorem RHeld.below {w w' : World} {B : Nat} {cs : List Value} {x : Held} (h : RHeld w B cs x) (hb : Below B w w') : RHeld w' B cs x := by
  obtain ⟨cv, gv, h1, h2, h3⟩ := h
  exact ⟨cv, gv, h1, h2.below hb, (h3.below hb).mono fun _ _ h => h.below hb⟩
theorem given_at {w : World} {B b off n cap : Nat} {l : List Given} (h : RSlice w B 2 (RGiven w B) [.slice (some ⟨b, off, none⟩) n cap] l) {k : Nat} (hk : k < l.length) :
    ∃ A c, w.cell? ⟨b, off + k * 2, none⟩ = some (.int .u64 l[k].cpus) ∧ w.cell? ⟨b, off + k * 2 + 1, none⟩ = some (.slice A l[k].devs.length c) ∧ l[k].cpus < 18446744073709551616 ∧ l[k].devs.length ≤ c ∧ c ≤ maxLen ∧
      RSlice w B 1 RInt [.slice A l[k].devs.length c] l[k].devs ∧ (∀ j, j < l[k].devs.length → ∃ b off, A = some ⟨b, off, none⟩ ∧ b < B) := by
  obtain ⟨_, cs', q1, q2, dv, rfl, q4, q5⟩ := h.at_ hk
  obtain ⟨A, c, e, hl, hc, hA⟩ := (RS.of q5).form
  obtain rfl : dv = _ := by simpa using e
  have r0 := q2 0 _ rfl
  have r1 := q2 1 _ rfl
  rw [Nat.add_zero] at r0
  exact ⟨A, c, r0, r1, q4, hl, hc, q5, hA⟩
theorem held_at {w : World} {B b off n cap : Nat} {l : List Held} (h : RSlice w B 4 (RHeld w B) [.slice (some ⟨b, off, none⟩) n cap] l) {k : Nat} (hk : k < l.length) :
    ∃ A1 c1 A2 c2, w.cell? ⟨b, off + k * 4, none⟩ = some (.string l[k].pod.name) ∧ w.cell? ⟨b, off + k * 4 + 1, none⟩ = some (.int .i64 l[k].pod.prio) ∧ w.cell? ⟨b, off + k * 4 + 2, none⟩ = some (.slice A1 l[k].pod.conts.length c1) ∧ w.cell? ⟨b, off + k * 4 + 3, none⟩ = some (.slice A2 l[k].given.length c2) ∧
      RPod w B [.string l[k].pod.name, .int .i64 l[k].pod.prio, .slice A1 l[k].pod.conts.length c1] l[k].pod ∧ l[k].pod.name.size ≤ maxLen ∧ l[k].pod.conts.length ≤ c1 ∧ c1 ≤ maxLen ∧ l[k].given.length ≤ c2 ∧ c2 ≤ maxLen ∧
      RSlice w B 6 (RCont w B) [.slice A1 l[k].pod.conts.length c1] l[k].pod.conts ∧ (∀ j, j < l[k].pod.conts.length → ∃ b off, A1 = some ⟨b, off, none⟩ ∧ b < B) ∧
      RSlice w B 2 (RGiven w B) [.slice A2 l[k].given.length c2] l[k].given ∧ (∀ j, j < l[k].given.length → ∃ b off, A2 = some ⟨b, off, none⟩ ∧ b < B) := by
  obtain ⟨_, cs', q1, q2, cv, gv, rfl, q4, q5⟩ := h.at_ hk
  obtain ⟨A2, c2, e2, hl2, hc2, hA2⟩ := (RS.of q5).form
  obtain rfl : gv = _ := by simpa using e2
  obtain ⟨cv', e1, p1, p2, p3⟩ := id q4
  obtain rfl : cv = cv' := by simpa using e1
  obtain ⟨A1, c1, e3, hl1, hc1, hA1⟩ := (RS.of p3).form
  obtain rfl : cv = _ := by simpa using e3
  have r0 := q2 0 _ rfl
  have r1 := q2 1 _ rfl
  have r2 := q2 2 _ rfl
  have r3 := q2 3 _ rfl
  rw [Nat.add_zero] at r0
  exact ⟨A1, c1, A2, c2, r0, r1, r2, r3, q4, p1, hl1, hc1, hl2, hc2, p3, hA1, q5, hA2⟩
namespace Sv
theorem held_pod {l : List Held} {k : Nat} (h : k < l.length) (hp : podFault l[k].pod ≠ 0) : heldAt l k = podFault l[k].pod := by
  rw [heldAt_at l k h, oneFault, if_pos hp]
theorem held_shape {l : List Held} {k : Nat} (h : k < l.length) (hp : podFault l[k].pod = 0) (hs : notUp l k l[k] = true ∨ l[k].given.length ≠ l[k].pod.conts.length) : heldAt l k = 3 := by
  rw [heldAt_at l k h, oneFault, if_neg (by omega), if_pos hs]
theorem held_giv {l : List Held} {k : Nat} (h : k < l.length) (hp : podFault l[k].pod = 0) (hs : notUp l k l[k] = false) (hl : l[k].given.length = l[k].pod.conts.length) : heldAt l k = firstF (givFault l[k].given) l[k].given.length := by
  rw [heldAt_at l k h, oneFault, if_neg (by omega), if_neg (by rw [hs]; simp [hl])]
theorem notUp_zero (l : List Held) (h : Held) : notUp l 0 h = false := rfl
theorem notUp_pos (l : List Held) {k : Nat} (h : Held) (h0 : 0 < k) (hk : k - 1 < l.length) : notUp l k h = !lessS l[k - 1].pod.name h.pod.name := by
  obtain ⟨j, rfl⟩ : ∃ j, k = j + 1 := ⟨k - 1, by omega⟩
  simp only [Nat.add_sub_cancel] at hk ⊢
  simp [notUp, List.getElem?_eq_getElem hk]
theorem giv_many {l : List Given} {k : Nat} (h : k < l.length) (hm : 16 < l[k].devs.length) : givFault l k = 2 := by rw [givFault_at l k h, givF, if_pos hm]
theorem giv_dev {l : List Given} {k : Nat} (h : k < l.length) (hm : ¬ 16 < l[k].devs.length) : givFault l k = firstF (devFault l[k].devs) l[k].devs.length := by rw [givFault_at l k h, givF, if_neg hm]
theorem dev_out {l : List Int} {k : Nat} (h : k < l.length) (hb : l[k] < 0 ∨ 15 < l[k]) : devFault l k = 3 := by rw [devFault_at l k h, if_pos hb]
theorem dev_up {l : List Int} {k : Nat} (h : k < l.length) (hb : ¬ (l[k] < 0 ∨ 15 < l[k])) (h0 : 0 < k) (h1 : k - 1 < l.length) (hx : l[k] ≤ l[k - 1]) : devFault l k = 3 := by
  rw [devFault_at l k h, if_neg hb, if_pos ⟨h0, by rw [List.getElem?_eq_getElem h1]; exact hx⟩]
theorem dev_ok {l : List Int} {k : Nat} (h : k < l.length) (hb : ¬ (l[k] < 0 ∨ 15 < l[k])) (hx : ∀ (_ : 0 < k) (h1 : k - 1 < l.length), l[k - 1] < l[k]) : devFault l k = 0 := by
  rw [devFault_at l k h, if_neg hb, if_neg]
  rintro ⟨h0, h1⟩
  have := hx h0 (by omega)
  rw [List.getElem?_eq_getElem (show k - 1 < l.length by omega)] at h1
  simp only [Option.getD_some] at h1
  omega
theorem held_many {l : List Held} (h : 12 < l.length) : heldFault l = 2 := by rw [heldFault, if_pos h]
theorem held_few {l : List Held} (h : ¬ 12 < l.length) : heldFault l = firstF (heldAt l) l.length := by rw [heldFault, if_neg h]
end Sv
end Go.Proofs.YticmfflnenoplacGreatDoor
namespace Go.Proofs.YticmfflnenoplacGreatDoor
open Go.RowKit Go.Deep Pop Bi Da Sv Qo
section
attribute [local irreducible] heldAt heldFault firstF podFault givFault devFault notUp lessS Op.bytesLess
set_option maxRecDepth 100000 in
set_option maxHeartbeats 1600000 in
theorem SCheck_any (l : List Held) (v : Value) (B : Nat) (w : World) (hB : B ≤ w.heap.size) (hR : RSlice w B 4 (RHeld w B) [v] l) :
    Calls Tryz.prog 87 #[v] w (RetEB (heldFault l) w) := by
  obtain ⟨A, cap, hv, hcl, hcap, hA⟩ := (RS.of hR).form
  obtain rfl : v = _ := by simpa using hv
  unfold maxLen at hcap
  have HA := Lib.hid hA
  have HR := Lib.hid hR
  clear hR hv hA
  go_enter Tryz.func87, Tryz.ntmps87
  by_cases hmany : 12 < l.length
  · have HF := Lib.hid (held_many hmany)
    go_wp2_with fail
    go_ret
    exact RetEB.err HF.out (by omega) (Below.refl _ _)
  · have HF := Lib.hid (held_few hmany)
    go_wp2_with fail
    go_loopw [16] (fun i wi => ∃ k : Nat, i = .int .i64 k ∧ k ≤ l.length ∧ Hid (∀ j, j < k → heldAt l j = 0) ∧ Below w.heap.size w wi) (fun i _ => l.length - (intOf i).toNat)
    case atStart => exact ⟨0, rfl, by omega, Lib.hid (fun j hj => by omega), Below.refl _ _⟩
    case round =>
      obtain ⟨k, rfl, hk, hall, hbel⟩ := hrel
      by_cases hlt : k < l.length
      · obtain ⟨b, off, rfl, hb⟩ := HA.out k hlt
        obtain ⟨A1, c1, A2, c2, r0, r1, r2, r3, hrp, hns, hl1, hc1, hl2, hc2, q1, q2, hgv, hgA⟩ := held_at (HR.out.below (hbel.mono hB) |>.mono fun _ _ h => h.below (hbel.mono hB)) hlt
        have hstop := Lib.hid (firstF_stop hall.out hlt)
        have HP1 := Lib.hid (held_pod hlt)
        have HP2 := Lib.hid (held_shape hlt)
        have HP3 := Lib.hid (held_giv hlt)
        have hprev : 0 < k → ∃ s, wr.cell? ⟨b, off + (k - 1) * 4, none⟩ = some (.string s) ∧ notUp l k l[k] = !lessS s l[k].pod.name := by
          intro hk0
          obtain ⟨_, _, _, _, q0, _⟩ := held_at (HR.out.below (hbel.mono hB) |>.mono fun _ _ h => h.below (hbel.mono hB)) (k := k - 1) (by omega)
          exact ⟨_, q0, notUp_pos l _ hk0 (by omega)⟩
        have hz : k = 0 → notUp l k l[k] = false := by
          intro h
          subst h
          exact notUp_zero _ _
        have HPREV := Lib.hid hprev
        have HZ := Lib.hid hz
        have HRP := Lib.hid hrp
        have HGV := Lib.hid hgv
        have HGA := Lib.hid hgA
        have hbw : b < wr.heap.size := by have := hbel.size; omega
        unfold maxLen at hns hc1 hc2
        clear hprev hz hrp hgv hgA q1 q2
        generalize notUp l k l[k] = nu at *
        generalize l[k] = x at *
        obtain ⟨⟨name, prio, conts⟩, given⟩ := x
        dsimp only at *
        go_upto_region 6 with fail
        have hba := hbel.alloc hbel.size (.cells #[.string name, .int .i64 prio, .slice A1 conts.length c1, .slice A2 given.length c2] 69)
        have hbr : Below wr.heap.size wr (wr.alloc (.cells #[.string name, .int .i64 prio, .slice A1 conts.length c1, .slice A2 given.length c2] 69)) := (Below.refl _ _).alloc (Nat.le_refl _) _
        have b9 := Blk.new wr 69 #[.string name, .int .i64 prio, .slice A1 conts.length c1, .slice A2 given.length c2]
        have hpk : w.heap.size ≤ wr.heap.size := hbel.size
        have HRA := Lib.hid (HRP.out.below (hbr.mono (Nat.le_trans hB hbel.size)))
        have HGN := Lib.hid ((HGV.out.below (hbr.mono (Nat.le_trans hB hbel.size))).mono fun _ _ h => h.below (hbr.mono (Nat.le_trans hB hbel.size)))
        have hcl := bcell hbr
        clear r0 r1 r2 r3 hbel HRP HGV hbr
        generalize wr.alloc (.cells #[.string name, .int .i64 prio, .slice A1 conts.length c1, .slice A2 given.length c2] 69) = wa at *
        have HCL := Lib.hid hcl
        clear hcl
        generalize wr.heap.size = pk at *
        have e9 := b9.cells
        have z9 := b9.lt
        have HC := Lib.hid (Check_any ⟨name, prio, conts⟩ _ B wa (Nat.le_trans hB hba.size) HRA.out)
        by_cases hp : podFault ⟨name, prio, conts⟩ = 0
        · go_wp2_with fail
          refine HC.out.mono ?_
          rintro e w5 ⟨rfl, hb5⟩
          rw [hp, errV_0]
          have b5 := b9.below hb5 b9.lt
          have hBa : B ≤ wa.heap.size := Nat.le_trans hB hba.size
          have hw5 : Below w.heap.size w w5 := hba.trans (hb5.mono hba.size)
          have HG5 := Lib.hid ((HGN.out.below (hb5.mono hBa)).mono fun _ _ h => h.below (hb5.mono hBa))
          have HPV : Hid (0 < k → ∃ s, w5.cell? ⟨b, off + (k - 1) * 4, none⟩ = some (.string s) ∧ nu = !lessS s name) := Lib.hid (fun h => by
            obtain ⟨s, q1, q2⟩ := HPREV.out h
            exact ⟨s, ((hb5.cell (p := ⟨b, _, none⟩) (Nat.lt_of_lt_of_le hb hBa)).trans (HCL.out.1 b _ hbw)).trans q1, q2⟩)
          have hb5w : b < w5.heap.size := Nat.lt_of_lt_of_le hb (Nat.le_trans hB hw5.size)
          have HP0 := Lib.hid hp
          clear HPREV HCL HC b9 e9 z9 hb5 HGN HRA hba hp
          generalize hgl0 : given.length = gl at *
          have HGL := Lib.hid hgl0
          clear hgl0
          generalize conts.length = cl at *
          have e5 := b5.cells
          have z5 := b5.lt
          go_upto_region 9 with fail
          have hI : Below w5.heap.size w5 w5.drew := (Below.refl _ _).drew
          have HW5 := Lib.hid hw5
          have HBA := Lib.hid hBa
          clear HP1 HR HA hw5 hBa hns hc1 hl1 hpk hbw
          rcases Nat.eq_zero_or_pos k with hk0 | hk0
          · obtain rfl : nu = false := HZ.out hk0
            subst hk0
            clear HZ HPV
            by_cases hlen : gl = cl
            · subst hlen
              have HX := Lib.hid (HP3.out HP0.out rfl rfl)
              clear HP2 HP3
              refine Flo.region 25 [(0, true), (1, true), (2, true), (3, true), (4, true), (5, true), (6, true), (7, true), (8, true), (9, true), (10, true), (11, true), (12, true), (13, true), (14, true), (15, true), (16, true), (17, true), (18, true), (19, true), (20, true), (21, true), (22, true), (23, true), (24, true)] (fun v => Below w5.heap.size w5 v) (by kernel_rfl) (by kernel_rfl) rfl hI ?_
              simp only [List.drop_succ_cons, List.drop_zero]
              iterate 25 (apply Flo.op rfl (hI := hI); (· intro v hv K hK; obtain ⟨hc, hf⟩ := Flo.bcl hv; go_wp2_with fail; all_goals first | exact Flo.noUndef (by with_reducible assumption) | exact hK); (· rfl))
              refine Flo.tail fun K hK => ?_
              go_wp2_with fail
              go_loopw [56] (fun i wi => ∃ m : Nat, i = .int .i64 m ∧ m ≤ gl ∧ Hid (∀ j, j < m → givFault given j = 0) ∧ Below w5.heap.size w5 wi) (fun i _ => gl - (intOf i).toNat)
              case atStart => exact ⟨0, rfl, by omega, Lib.hid (fun j hj => by omega), hI⟩
              case round =>
                clear e5 hI
                obtain ⟨m, rfl, hm, hallG, hbm⟩ := hrel
                by_cases hltm : m < gl
                · obtain ⟨b2, off2, hA2e, hb2⟩ := HGA.out m hltm
                  subst hA2e
                  have hlg : m < given.length := by rw [HGL.out]; exact hltm
                  have hB5 : B ≤ w5.heap.size := Nat.le_trans hB HW5.out.size
                  obtain ⟨A3, c3, g0, g1, hgc, hg1, hg2, hgd, hgdA⟩ := given_at ((HG5.out.below (hbm.mono hB5)).mono fun _ _ h => h.below (hbm.mono hB5)) hlg
                  have hstopG := Lib.hid (firstF_stop hallG.out hltm)
                  have HGM := Lib.hid (giv_many hlg)
                  have HGD := Lib.hid (giv_dev hlg)
                  have b5m := b5.below hbm b5.lt
                  have HDV := Lib.hid hgd
                  have HDA := Lib.hid hgdA
                  have e5m := b5m.cells
                  have z5m := b5m.lt
                  unfold maxLen at hg2
                  have hb2w := Nat.lt_of_lt_of_le hb2 (Nat.le_trans hB5 hbm.size)
                  clear hgd hgdA
                  generalize given[m] = g at *
                  obtain ⟨cp, devs⟩ := g
                  dsimp only at *
                  go_upto_region 14 with fail
                  have hbg := hbm.alloc hbm.size (.cells #[.int .u64 cp, .slice A3 devs.length c3] 80)
                  have hbr3 := (Below.refl wr.heap.size wr).alloc (Nat.le_refl _) (.cells #[.int .u64 cp, .slice A3 devs.length c3] 80)
                  have b5g := b5m.alloc (.cells #[.int .u64 cp, .slice A3 devs.length c3] 80)
                  have b8 := Blk.new wr 80 #[.int .u64 cp, .slice A3 devs.length c3]
                  have HDV2 := Lib.hid (HDV.out.below (hbr3.mono (Nat.le_trans hB5 hbm.size)))
                  clear e5m z5m b5m HDV hbr3 g0 g1
                  generalize wr.alloc (.cells #[.int .u64 cp, .slice A3 devs.length c3] 80) = wg at *
                  have hpg : w5.heap.size ≤ wr.heap.size := hbm.size
                  generalize wr.heap.size = pg at *
                  have e8 := b8.cells
                  have z8 := b8.lt
                  have HBG := Lib.hid hbg
                  generalize hdl : devs.length = dl at *
                  have HDL := Lib.hid hdl
                  clear hdl hbm
                  by_cases h16 : 16 < dl
                  · have HX2 := Lib.hid (HGM.out h16)
                    clear HGD
                    go_wp2_with fail
                    go_ret
                    exact RetEB.err (HF.out.trans ((hstop.out (by rw [HX.out, hstopG.out (by rw [HX2.out]; decide), HX2.out]; decide)).trans (HX.out.trans ((hstopG.out (by rw [HX2.out]; decide)).trans HX2.out)))) (by omega) (HW5.out.trans (HBG.out.mono HW5.out.size))
                  · have HX2 := Lib.hid (HGD.out h16)
                    clear HGM
                    go_upto_region 17 with fail
                    go_loopw [68] (fun i wi => ∃ j : Nat, i = .int .i64 j ∧ j ≤ dl ∧ Hid (∀ q, q < j → devFault devs q = 0) ∧ Below wg.heap.size wg wi) (fun i _ => dl - (intOf i).toNat)
                    case atStart => exact ⟨0, rfl, by omega, Lib.hid (fun j hj => by omega), Below.refl _ _⟩
                    case round =>
                      clear e8
                      obtain ⟨j, rfl, hj, hallD, hbj⟩ := hrel
                      by_cases hltj : j < dl
                      · obtain ⟨b3, off3, hA3e, hb3⟩ := HDA.out j hltj
                        subst hA3e
                        have hld : j < devs.length := by rw [HDL.out]; exact hltj
                        have hBg : B ≤ wg.heap.size := Nat.le_trans hB5 HBG.out.size
                        have HRD := Lib.hid (RS.of (HDV2.out.below (hbj.mono hBg)))
                        obtain ⟨d0, x1, x2⟩ := rs_int1 HRD.out hld
                        have hstopD := Lib.hid (firstF_stop hallD.out hltj)
                        have HERR := Lib.hid (fun (h : devFault devs j = 3) => (show heldFault l = 3 from by
                          have q1 : firstF (devFault devs) dl = 3 := (hstopD.out (by rw [h]; decide)).trans h
                          have q2 : givFault given m = 3 := HX2.out.trans q1
                          have q3 : firstF (givFault given) gl = 3 := (hstopG.out (by rw [q2]; decide)).trans q2
                          have q4 := HX.out.trans q3
                          exact HF.out.trans ((hstop.out (by rw [q4]; decide)).trans q4)))
                        have HOUT := Lib.hid (fun h => HERR.out (dev_out hld h))
                        have HUP := Lib.hid (fun h h0 h1 h2 => HERR.out (dev_up hld h h0 h1 h2))
                        have HOK := Lib.hid (dev_ok hld)
                        have b8j := b8.below hbj b8.lt
                        have e8 := b8j.cells
                        have z8j := b8j.lt
                        have hb3w : b3 < wr.heap.size := Nat.lt_of_lt_of_le hb3 (Nat.le_trans hBg hbj.size)
                        have hpv : 0 < j → ∃ y, wr.cell? ⟨b3, off3 + (j - 1), none⟩ = some (.int .i64 y) ∧ ∃ h : j - 1 < devs.length, y = devs[j - 1] := by
                          intro hj0
                          have hj1 : j - 1 < devs.length := by omega
                          obtain ⟨y0, _⟩ := rs_int1 HRD.out hj1
                          exact ⟨_, y0, hj1, rfl⟩
                        have HPQ := Lib.hid hpv
                        clear hpv hstopD HERR HRD b8j hstop hstopG HX HX2 HF hall hallG
                        generalize devs[j] = x at *
                        rcases (show x < 0 ∨ (0 ≤ x ∧ 15 < x) ∨ (0 ≤ x ∧ x ≤ 15) by omega) with hx | ⟨hx0, hx⟩ | ⟨hx0, hx⟩
                        · have HX3 := Lib.hid (HOUT.out (.inl hx))
                          clear HOUT HUP HOK HPQ
                          go_wp2_with fail
                          go_ret
                          exact RetEB.err HX3.out (by omega) (HW5.out.trans ((HBG.out.trans (hbj.mono HBG.out.size)).mono HW5.out.size))
                        · have HX3 := Lib.hid (HOUT.out (.inr hx))
                          clear HOUT HUP HOK HPQ
                          go_wp2_with fail
                          go_ret
                          exact RetEB.err HX3.out (by omega) (HW5.out.trans ((HBG.out.trans (hbj.mono HBG.out.size)).mono HW5.out.size))
                        · rcases Nat.eq_zero_or_pos j with hj0 | hj0
                          · have HX3 := Lib.hid (HOK.out (by omega) (fun h => by omega))
                            clear HOUT HUP HOK HPQ
                            have hjn : (j : Int) ≤ 0 := by omega
                            clear hj0
                            go_wp2_with fail
                            go_roundw
                            case rel => exact ⟨j + 1, by first | rfl | go_num, by omega, Lib.hid (all_succ hallD.out HX3.out), hbj⟩
                            case measure => simp [intOf] <;> omega
                          · obtain ⟨y, y0, hj1, hy⟩ := HPQ.out hj0
                            clear HPQ
                            by_cases hyx : x ≤ y
                            · have HX3 := Lib.hid (HUP.out (by omega) hj0 hj1 (by rw [← hy]; exact hyx))
                              clear HOUT HUP HOK hy
                              go_wp2_with fail
                              go_ret
                              exact RetEB.err HX3.out (by omega) (HW5.out.trans ((HBG.out.trans (hbj.mono HBG.out.size)).mono HW5.out.size))
                            · have HX3 := Lib.hid (HOK.out (by omega) (fun _ _ => by rw [← hy]; omega))
                              clear HOUT HUP HOK hy
                              go_wp2_with fail
                              go_roundw
                              case rel => exact ⟨j + 1, by first | rfl | go_num, by omega, Lib.hid (all_succ hallD.out HX3.out), hbj⟩
                              case measure => simp [intOf] <;> omega
                      · obtain rfl : j = dl := by omega
                        have HZ3 := Lib.hid (firstF_zero hallD.out)
                        go_wp2_with fail
                        go_roundw
                        case rel => exact ⟨m + 1, by first | rfl | go_num, hltm, Lib.hid (all_succ hallG.out (HX2.out.trans HZ3.out)), HBG.out.trans (hbj.mono HBG.out.size)⟩
                        case measure =>
                          have := hltm
                          simp [intOf] <;> omega
                · obtain rfl : m = gl := by omega
                  have HZ2 := Lib.hid (firstF_zero hallG.out)
                  go_wp2_with fail
                  go_roundw
                  case rel => exact ⟨0 + 1, by first | rfl | go_num, by omega, Lib.hid (all_succ hall.out (HX.out.trans HZ2.out)), HW5.out.trans (hbm.mono HW5.out.size)⟩
                  case measure => simp [intOf] <;> omega
            · skip
              have HX := Lib.hid (HP2.out HP0.out (.inr hlen))
              clear HP2 HP3
              refine Flo.region 25 [(0, true), (1, true), (2, true), (3, true), (4, true), (5, true), (6, true), (7, true), (8, true), (9, true), (10, true), (11, true), (12, true), (13, true), (14, true), (15, true), (16, true), (17, true), (18, true), (19, true), (20, true), (21, true), (22, true), (23, true), (24, true)] (fun v => Below w5.heap.size w5 v) (by kernel_rfl) (by kernel_rfl) rfl hI ?_
              simp only [List.drop_succ_cons, List.drop_zero]
              iterate 25 (apply Flo.op rfl (hI := hI); (· intro v hv K hK; obtain ⟨hc, hf⟩ := Flo.bcl hv; go_wp2_with fail; all_goals first | exact Flo.noUndef (by with_reducible assumption) | exact hK); (· rfl))
              refine Flo.tail fun K hK => ?_
              go_wp2_with fail
              go_ret
              exact RetEB.err (HF.out.trans ((hstop.out (by rw [HX.out]; decide)).trans HX.out)) (by omega) (HW5.out.trans (hI.mono HW5.out.size))
          · obtain ⟨s, r0', hnu⟩ := HPV.out hk0
            clear HZ HPV
            cases hls : Op.bytesLess s.toList name.toList
            · obtain rfl : nu = true := by rw [hnu, lessS_eq, hls]; rfl
              clear hnu
              have HX := Lib.hid (HP2.out HP0.out (.inl rfl))
              clear HP2 HP3
              refine Flo.region 25 [(0, true), (1, true), (2, true), (3, true), (4, true), (5, true), (6, true), (7, true), (8, true), (9, true), (10, true), (11, true), (12, true), (13, true), (14, true), (15, true), (16, true), (17, true), (18, true), (19, true), (20, true), (21, true), (22, true), (23, true), (24, true)] (fun v => Below w5.heap.size w5 v) (by kernel_rfl) (by kernel_rfl) rfl hI ?_
              simp only [List.drop_succ_cons, List.drop_zero]
              iterate 25 (apply Flo.op rfl (hI := hI); (· intro v hv K hK; obtain ⟨hc, hf⟩ := Flo.bcl hv; go_wp2_with fail; all_goals first | exact Flo.noUndef (by with_reducible assumption) | exact hK); (· rfl))
              refine Flo.tail fun K hK => ?_
              go_wp2_with fail
              go_ret
              exact RetEB.err (HF.out.trans ((hstop.out (by rw [HX.out]; decide)).trans HX.out)) (by omega) (HW5.out.trans (hI.mono HW5.out.size))
            · obtain rfl : nu = false := by rw [hnu, lessS_eq, hls]; rfl
              clear hnu
              by_cases hlen : gl = cl
              · subst hlen
                have HX := Lib.hid (HP3.out HP0.out rfl rfl)
                clear HP2 HP3
                refine Flo.region 25 [(0, true), (1, true), (2, true), (3, true), (4, true), (5, true), (6, true), (7, true), (8, true), (9, true), (10, true), (11, true), (12, true), (13, true), (14, true), (15, true), (16, true), (17, true), (18, true), (19, true), (20, true), (21, true), (22, true), (23, true), (24, true)] (fun v => Below w5.heap.size w5 v) (by kernel_rfl) (by kernel_rfl) rfl hI ?_
                simp only [List.drop_succ_cons, List.drop_zero]
                iterate 25 (apply Flo.op rfl (hI := hI); (· intro v hv K hK; obtain ⟨hc, hf⟩ := Flo.bcl hv; go_wp2_with fail; all_goals first | exact Flo.noUndef (by with_reducible assumption) | exact hK); (· rfl))
                refine Flo.tail fun K hK => ?_
                go_wp2_with fail
                go_loopw [56] (fun i wi => ∃ m : Nat, i = .int .i64 m ∧ m ≤ gl ∧ Hid (∀ j, j < m → givFault given j = 0) ∧ Below w5.heap.size w5 wi) (fun i _ => gl - (intOf i).toNat)
                case atStart => exact ⟨0, rfl, by omega, Lib.hid (fun j hj => by omega), hI⟩
                case round =>
                  clear e5 hI
                  obtain ⟨m, rfl, hm, hallG, hbm⟩ := hrel
                  by_cases hltm : m < gl
                  · obtain ⟨b2, off2, hA2e, hb2⟩ := HGA.out m hltm
                    subst hA2e
                    have hlg : m < given.length := by rw [HGL.out]; exact hltm
                    have hB5 : B ≤ w5.heap.size := Nat.le_trans hB HW5.out.size
                    obtain ⟨A3, c3, g0, g1, hgc, hg1, hg2, hgd, hgdA⟩ := given_at ((HG5.out.below (hbm.mono hB5)).mono fun _ _ h => h.below (hbm.mono hB5)) hlg
                    have hstopG := Lib.hid (firstF_stop hallG.out hltm)
                    have HGM := Lib.hid (giv_many hlg)
                    have HGD := Lib.hid (giv_dev hlg)
                    have b5m := b5.below hbm b5.lt
                    have HDV := Lib.hid hgd
                    have HDA := Lib.hid hgdA
                    have e5m := b5m.cells
                    have z5m := b5m.lt
                    unfold maxLen at hg2
                    have hb2w := Nat.lt_of_lt_of_le hb2 (Nat.le_trans hB5 hbm.size)
                    clear hgd hgdA
                    generalize given[m] = g at *
                    obtain ⟨cp, devs⟩ := g
                    dsimp only at *
                    go_upto_region 14 with fail
                    have hbg := hbm.alloc hbm.size (.cells #[.int .u64 cp, .slice A3 devs.length c3] 80)
                    have hbr3 := (Below.refl wr.heap.size wr).alloc (Nat.le_refl _) (.cells #[.int .u64 cp, .slice A3 devs.length c3] 80)
                    have b5g := b5m.alloc (.cells #[.int .u64 cp, .slice A3 devs.length c3] 80)
                    have b8 := Blk.new wr 80 #[.int .u64 cp, .slice A3 devs.length c3]
                    have HDV2 := Lib.hid (HDV.out.below (hbr3.mono (Nat.le_trans hB5 hbm.size)))
                    clear e5m z5m b5m HDV hbr3 g0 g1
                    generalize wr.alloc (.cells #[.int .u64 cp, .slice A3 devs.length c3] 80) = wg at *
                    have hpg : w5.heap.size ≤ wr.heap.size := hbm.size
                    generalize wr.heap.size = pg at *
                    have e8 := b8.cells
                    have z8 := b8.lt
                    have HBG := Lib.hid hbg
                    generalize hdl : devs.length = dl at *
                    have HDL := Lib.hid hdl
                    clear hdl hbm
                    by_cases h16 : 16 < dl
                    · have HX2 := Lib.hid (HGM.out h16)
                      clear HGD
                      go_wp2_with fail
                      go_ret
                      exact RetEB.err (HF.out.trans ((hstop.out (by rw [HX.out, hstopG.out (by rw [HX2.out]; decide), HX2.out]; decide)).trans (HX.out.trans ((hstopG.out (by rw [HX2.out]; decide)).trans HX2.out)))) (by omega) (HW5.out.trans (HBG.out.mono HW5.out.size))
                    · have HX2 := Lib.hid (HGD.out h16)
                      clear HGM
                      go_upto_region 17 with fail
                      go_loopw [68] (fun i wi => ∃ j : Nat, i = .int .i64 j ∧ j ≤ dl ∧ Hid (∀ q, q < j → devFault devs q = 0) ∧ Below wg.heap.size wg wi) (fun i _ => dl - (intOf i).toNat)
                      case atStart => exact ⟨0, rfl, by omega, Lib.hid (fun j hj => by omega), Below.refl _ _⟩
                      case round =>
                        clear e8
                        obtain ⟨j, rfl, hj, hallD, hbj⟩ := hrel
                        by_cases hltj : j < dl
                        · obtain ⟨b3, off3, hA3e, hb3⟩ := HDA.out j hltj
                          subst hA3e
                          have hld : j < devs.length := by rw [HDL.out]; exact hltj
                          have hBg : B ≤ wg.heap.size := Nat.le_trans hB5 HBG.out.size
                          have HRD := Lib.hid (RS.of (HDV2.out.below (hbj.mono hBg)))
                          obtain ⟨d0, x1, x2⟩ := rs_int1 HRD.out hld
                          have hstopD := Lib.hid (firstF_stop hallD.out hltj)
                          have HERR := Lib.hid (fun (h : devFault devs j = 3) => (show heldFault l = 3 from by
                            have q1 : firstF (devFault devs) dl = 3 := (hstopD.out (by rw [h]; decide)).trans h
                            have q2 : givFault given m = 3 := HX2.out.trans q1
                            have q3 : firstF (givFault given) gl = 3 := (hstopG.out (by rw [q2]; decide)).trans q2
                            have q4 := HX.out.trans q3
                            exact HF.out.trans ((hstop.out (by rw [q4]; decide)).trans q4)))
                          have HOUT := Lib.hid (fun h => HERR.out (dev_out hld h))
                          have HUP := Lib.hid (fun h h0 h1 h2 => HERR.out (dev_up hld h h0 h1 h2))
                          have HOK := Lib.hid (dev_ok hld)
                          have b8j := b8.below hbj b8.lt
                          have e8 := b8j.cells
                          have z8j := b8j.lt
                          have hb3w : b3 < wr.heap.size := Nat.lt_of_lt_of_le hb3 (Nat.le_trans hBg hbj.size)
                          have hpv : 0 < j → ∃ y, wr.cell? ⟨b3, off3 + (j - 1), none⟩ = some (.int .i64 y) ∧ ∃ h : j - 1 < devs.length, y = devs[j - 1] := by
                            intro hj0
                            have hj1 : j - 1 < devs.length := by omega
                            obtain ⟨y0, _⟩ := rs_int1 HRD.out hj1
                            exact ⟨_, y0, hj1, rfl⟩
                          have HPQ := Lib.hid hpv
                          clear hpv hstopD HERR HRD b8j hstop hstopG HX HX2 HF hall hallG
                          generalize devs[j] = x at *
                          rcases (show x < 0 ∨ (0 ≤ x ∧ 15 < x) ∨ (0 ≤ x ∧ x ≤ 15) by omega) with hx | ⟨hx0, hx⟩ | ⟨hx0, hx⟩
                          · have HX3 := Lib.hid (HOUT.out (.inl hx))
                            clear HOUT HUP HOK HPQ
                            go_wp2_with fail
                            go_ret
                            exact RetEB.err HX3.out (by omega) (HW5.out.trans ((HBG.out.trans (hbj.mono HBG.out.size)).mono HW5.out.size))
                          · have HX3 := Lib.hid (HOUT.out (.inr hx))
                            clear HOUT HUP HOK HPQ
                            go_wp2_with fail
                            go_ret
                            exact RetEB.err HX3.out (by omega) (HW5.out.trans ((HBG.out.trans (hbj.mono HBG.out.size)).mono HW5.out.size))
                          · rcases Nat.eq_zero_or_pos j with hj0 | hj0
                            · have HX3 := Lib.hid (HOK.out (by omega) (fun h => by omega))
                              clear HOUT HUP HOK HPQ
                              have hjn : (j : Int) ≤ 0 := by omega
                              clear hj0
                              go_wp2_with fail
                              go_roundw
                              case rel => exact ⟨j + 1, by first | rfl | go_num, by omega, Lib.hid (all_succ hallD.out HX3.out), hbj⟩
                              case measure => simp [intOf] <;> omega
                            · obtain ⟨y, y0, hj1, hy⟩ := HPQ.out hj0
                              clear HPQ
                              by_cases hyx : x ≤ y
                              · have HX3 := Lib.hid (HUP.out (by omega) hj0 hj1 (by rw [← hy]; exact hyx))
                                clear HOUT HUP HOK hy
                                go_wp2_with fail
                                go_ret
                                exact RetEB.err HX3.out (by omega) (HW5.out.trans ((HBG.out.trans (hbj.mono HBG.out.size)).mono HW5.out.size))
                              · have HX3 := Lib.hid (HOK.out (by omega) (fun _ _ => by rw [← hy]; omega))
                                clear HOUT HUP HOK hy
                                go_wp2_with fail
                                go_roundw
                                case rel => exact ⟨j + 1, by first | rfl | go_num, by omega, Lib.hid (all_succ hallD.out HX3.out), hbj⟩
                                case measure => simp [intOf] <;> omega
                        · obtain rfl : j = dl := by omega
                          have HZ3 := Lib.hid (firstF_zero hallD.out)
                          go_wp2_with fail
                          go_roundw
                          case rel => exact ⟨m + 1, by first | rfl | go_num, hltm, Lib.hid (all_succ hallG.out (HX2.out.trans HZ3.out)), HBG.out.trans (hbj.mono HBG.out.size)⟩
                          case measure =>
                            have := hltm
                            simp [intOf] <;> omega
                  · obtain rfl : m = gl := by omega
                    have HZ2 := Lib.hid (firstF_zero hallG.out)
                    go_wp2_with fail
                    go_roundw
                    case rel => exact ⟨k + 1, by first | rfl | go_num, by omega, Lib.hid (all_succ hall.out (HX.out.trans HZ2.out)), HW5.out.trans (hbm.mono HW5.out.size)⟩
                    case measure => simp [intOf] <;> omega
              · skip
                have HX := Lib.hid (HP2.out HP0.out (.inr hlen))
                clear HP2 HP3
                refine Flo.region 25 [(0, true), (1, true), (2, true), (3, true), (4, true), (5, true), (6, true), (7, true), (8, true), (9, true), (10, true), (11, true), (12, true), (13, true), (14, true), (15, true), (16, true), (17, true), (18, true), (19, true), (20, true), (21, true), (22, true), (23, true), (24, true)] (fun v => Below w5.heap.size w5 v) (by kernel_rfl) (by kernel_rfl) rfl hI ?_
                simp only [List.drop_succ_cons, List.drop_zero]
                iterate 25 (apply Flo.op rfl (hI := hI); (· intro v hv K hK; obtain ⟨hc, hf⟩ := Flo.bcl hv; go_wp2_with fail; all_goals first | exact Flo.noUndef (by with_reducible assumption) | exact hK); (· rfl))
                refine Flo.tail fun K hK => ?_
                go_wp2_with fail
                go_ret
                exact RetEB.err (HF.out.trans ((hstop.out (by rw [HX.out]; decide)).trans HX.out)) (by omega) (HW5.out.trans (hI.mono HW5.out.size))
        · have HX := Lib.hid (HP1.out hp)
          have HEV := Lib.hid (errV_pos _ hp)
          go_wp2_with fail
          refine HC.out.mono ?_
          rintro e w5 ⟨rfl, hb5⟩
          rw [HEV.out]
          go_wp2_with fail
          go_ret
          exact RetEB.err (HF.out.trans ((hstop.out (by rw [HX.out]; exact hp)).trans HX.out)) hp (hba.trans (hb5.mono hba.size))
      · obtain rfl : k = l.length := by omega
        have HZ := Lib.hid (firstF_zero hall.out)
        go_wp2_with fail
        go_ret
        exact RetEB.nil (HF.out.trans HZ.out) hbel
end
end Go.Proofs.YticmfflnenoplacGreatDoor
namespace Go.Proofs.YticmfflnenoplacGreatDoor
open Go.RowKit Go.Deep Go.Shelf Pop Bi Da Sv Qo
def Wr (B b : Nat) (l : List UInt8) (w : World) : Prop := Lib.IsBuilderF 173 5 B b (Lib.byteCells l) w
theorem Write_any (B b : Nat) (l : List UInt8) (s : ByteArray) (w : World) (h : Wr B b l w) (hlen : l.length + s.size ≤ 1000000) (hBw : B ≤ w.heap.size) :
    Calls Tryz.prog 88 #[.pointer (some ⟨b, 0, none⟩), .string s] w fun e w' => e = .returned (.tuple #[.int .i64 s.size, .nilIface]) ∧ Wr B b (l ++ s.data.toList) w' ∧ Below B w w' ∧ Lib.OthersKept 5 (some b) w w' := by
  refine (Any.Builder_WriteString_k (P := Tryz.prog) (ρ := Tryz.lays156_ren) { Tryz.lays156 with } Tryz.Builder_Extra_156 B b _ s w h (by rw [Lib.byteCells_length]; omega) hBw).mono ?_
  rintro e w' ⟨rfl, h1, h2, h3⟩
  refine ⟨rfl, ?_, h2, h3⟩
  unfold Wr
  rw [Lib.byteCells_append, ← Lib.strCells_eq]
  exact .inr h1
end Go.Proofs.YticmfflnenoplacGreatDoor
namespace Go.Proofs.YticmfflnenoplacGreatDoor
open Go.RowKit Go.Deep Pop Bi
namespace Bi
theorem map_nil_iff {ps : List (Nat × Nat)} : (ps.map spanT = []) ↔ ps = [] := List.map_eq_nil_iff
theorem itoa_pos (n : Nat) (h : n < 64) : 0 < (Lib.itoa (n : Int)).length := by
  rw [Am.itoa_nat]
  rcases Nat.eq_zero_or_pos (Lib.decDigits n).length with h | h
  · have := List.length_eq_zero_iff.1 h
    have h2 : ∀ m : Nat, m < 64 → Lib.decDigits m ≠ [] := by decide +kernel
    exact absurd this (h2 n (by assumption))
  · exact h
theorem spanT_pos {p : Nat × Nat} (h : p.1 < 64) : 0 < (spanT p).length := by
  have := itoa_pos p.1 h
  unfold spanT
  rw [List.length_append]
  omega
theorem join_pos {ps : List (Nat × Nat)} (hp : ∀ p ∈ ps, p.1 < 64 ∧ p.2 < 64) (h : ps ≠ []) : 0 < (Lib.join (ps.map spanT) [44]).length := by
  cases ps with
  | nil => exact absurd rfl h
  | cons p ps =>
    have h1 := spanT_pos (hp p (by simp)).1
    cases ps with
    | nil => simpa [Lib.join, List.intercalate] using h1
    | cons q ps =>
      have e : Lib.join ((p :: q :: ps).map spanT) [44] = spanT p ++ 44 :: Lib.join ((q :: ps).map spanT) [44] := by simp [Lib.join, List.intercalate]
      rw [e, List.length_append]
      omega
/-- The text so far, and one more span. -/
theorem text_more {ps : List (Nat × Nat)} {p : Nat × Nat} : Lib.join ((ps ++ [p]).map spanT) [44] = if ps = [] then spanT p else Lib.join (ps.map spanT) [44] ++ 44 :: spanT p := by
  rw [List.map_append, List.map_cons, List.map_nil, join_snoc]
  simp only [map_nil_iff]
end Bi
theorem str_isE (l : List UInt8) (h : 0 < l.length) : ((⟨l.toArray⟩ : ByteArray).toList.isEmpty) = false := by
  rw [ByteArray.toList_eq]
  cases l with
  | nil => simp at h
  | cons a l => rfl
theorem tx_one {T : ByteArray} {J : List UInt8} (b : UInt8) (t : List UInt8) (hT : T = ⟨J.toArray⟩) : (T ++ ⟨#[b]⟩) ++ ⟨t.toArray⟩ = ⟨(J ++ b :: t).toArray⟩ := by
  rw [hT, show (⟨#[b]⟩ : ByteArray) = ⟨[b].toArray⟩ from rfl, str_app, str_app]
  simp
theorem tx_nil (t : List UInt8) : (⟨#[]⟩ : ByteArray) ++ ⟨t.toArray⟩ = ⟨t.toArray⟩ := by
  rw [show (⟨#[]⟩ : ByteArray) = ⟨([] : List UInt8).toArray⟩ from rfl, str_app]
  rfl
theorem str_size (l : List UInt8) : (⟨l.toArray⟩ : ByteArray).size = l.length := rfl
section
attribute [local irreducible] inS spans endR spanT Lib.itoa Lib.join
end
end Go.Proofs.YticmfflnenoplacGreatDoor
namespace Go.Proofs.YticmfflnenoplacGreatDoor
open Go.RowKit Go.Deep Pop Bi Am
namespace Bi
theorem cut_le (l : List UInt8) (c : UInt8) : (Lib.cut l [c]).1.length ≤ l.length ∧ (Lib.cut l [c]).2.1.length ≤ l.length := by
  unfold Lib.cut
  split
  · exact ⟨by simp; omega, by simp⟩
  · exact ⟨Nat.le_refl _, by simp⟩
theorem split_le (sep : ByteArray) (save : Nat) (hsv : save = 0) : ∀ (k : Nat) (s : ByteArray), ∀ x ∈ Lib.splitB sep save k s, x.size ≤ s.size
  | 0, s, x, hx => by
    rw [Lib.splitB_zero] at hx
    obtain rfl := List.mem_singleton.1 hx
    exact Nat.le_refl _
  | k + 1, s, x, hx => by
    unfold Lib.splitB at hx
    split at hx
    · obtain rfl := List.mem_singleton.1 hx
      exact Nat.le_refl _
    · rcases List.mem_cons.1 hx with rfl | hx
      · rw [ByteArray.size_extract]; omega
      · have := split_le sep save hsv k _ x hx
        rw [ByteArray.size_extract] at this
        omega
/-- The words as they lie in memory. -/
def wordsB (s : ByteArray) : List ByteArray := Lib.splitB ⟨#[44]⟩ 0 (Lib.countB s ⟨#[44]⟩) s
theorem wordsB_data (s : ByteArray) : (wordsB s).map (fun b : ByteArray => b.data.toList) = wordsP s.data.toList := by
  unfold wordsB
  exact Lib.splitB_data _ _ _ _
theorem wordsB_len (s : ByteArray) : (wordsB s).length = Lib.countB s ⟨#[44]⟩ + 1 := Lib.splitB_all ⟨#[44]⟩ (by decide) 0 _ s rfl
theorem wordsB_le (s : ByteArray) : ∀ x ∈ wordsB s, x.size ≤ s.size := split_le _ _ rfl _ _
theorem wordsB_few (s : ByteArray) : (wordsB s).length ≤ s.size + 1 := by
  rw [wordsB_len]
  have := Lib.countB_le ⟨#[44]⟩ (by decide) s.size s (Nat.le_refl _)
  omega
theorem orR_zero (s a : Nat) : orR s a 0 = s := rfl
theorem orR_succ (s a k : Nat) : orR s a (k + 1) = orR s a k ||| 2 ^ (a + k) := rfl
end Bi
def NumP (a : List UInt8) (w : World) (e : Ending) (w' : World) : Prop := ∃ m : Int, e = .returned (.tuple #[.int .i64 m, .bool (numB a)]) ∧ (numB a = true → m = num a) ∧ (-9223372036854775808 ≤ m ∧ m ≤ 9223372036854775807) ∧ Below w.heap.size w w'
theorem NumP.of {a : List UInt8} {m : Int} {b : Bool} {w w' : World} (h : numB a = b) (h2 : numB a = true → m = num a) (hm : -9223372036854775808 ≤ m ∧ m ≤ 9223372036854775807) (hb : Below w.heap.size w w') : NumP a w (.returned (.tuple #[.int .i64 m, .bool b])) w' :=
  ⟨m, by rw [h], h2, hm, hb⟩
theorem data_list (s : ByteArray) : s.toList = s.data.toList := ByteArray.toList_eq s
theorem beq_data {T s : ByteArray} {l : List UInt8} (hT : T = ⟨l.toArray⟩) : (T.toList == s.toList) = decide (l = s.data.toList) := by
  rw [hT, data_list, data_list, Bool.eq_iff_iff, beq_iff_eq, decide_eq_true_eq]
section
attribute [local irreducible] numB num Lib.itoa Lib.atoiAll
set_option maxRecDepth 100000 in
set_option maxHeartbeats 2000000 in
theorem number_any (s : ByteArray) (hs : s.size ≤ 1000) (w : World) (hL : LayS w) : Calls Tryz.prog 211 #[.string s] w (NumP s.data.toList w) := by
  have HL := Lib.hid hL
  clear hL
  cases ha : Lib.atoiAll s.data.toList with
  | ok v =>
    have HAT := Lib.hid (Tryz.strconv_Atoi_ok s (by omega) v ha w)
    have hvb := Lib.atoiAll_bounds ha
    have HN := Lib.hid (numB_of ha)
    have HV := Lib.hid (numB_val ha)
    have HI := Lib.hid (fun W (hW : LayS W) => itoa_any v hvb.1 hvb.2 W hW.lay)
    clear ha
    go_enter Tryz.func211, Tryz.ntmps211
    go_wp2_with fail
    refine HAT.out.mono ?_
    rintro e w1 ⟨rfl, hw1⟩
    have hb1 : Below w.heap.size w w1 := by
      rcases hw1 with rfl | ⟨t, rfl⟩
      · exact Below.refl _ _
      · exact Go.Joins.below_bytesWorld _ _ _ _ (Nat.le_refl _)
    clear hw1 HAT
    go_wp2_with fail
    refine (HI.out _ (HL.out.below hb1)).mono ?_
    rintro e w2 ⟨rfl, hb2⟩
    have hb2' := hb1.trans (hb2.mono hb1.size)
    obtain ⟨T, hT⟩ : ∃ T : ByteArray, T = ⟨(Lib.itoa v).toArray⟩ := ⟨_, rfl⟩
    rw [← hT]
    have hE := beq_data (s := s) hT
    clear hT HI hb1 hb2
    cases hd : decide (Lib.itoa v = s.data.toList)
    · have HNF : Hid (numB s.data.toList = false) := Lib.hid (by rw [HN.out, hd]; rfl)
      rw [hd] at hE
      clear HN hd
      go_wp2_with fail
      go_ret2
      exact NumP.of HNF.out HV.out hvb hb2'
    · rw [hd] at hE
      by_cases h0 : 0 ≤ v
      · have HNF : Hid (numB s.data.toList = true) := Lib.hid (by rw [HN.out, hd]; simp [h0])
        clear HN hd
        go_wp2_with fail
        go_ret2
        exact NumP.of HNF.out HV.out hvb hb2'
      · have HNF : Hid (numB s.data.toList = decide (0 ≤ v)) := Lib.hid (by rw [HN.out, hd]; simp)
        clear HN hd
        go_wp2_with fail
        go_ret2
        exact NumP.of HNF.out HV.out hvb hb2'
  | «syntax» =>
    obtain ⟨tp, p, hp⟩ := HL.out.syn
    have HAT := Lib.hid (Tryz.strconv_Atoi_syntax_var s (by omega) ha tp p w hp)
    have HNF := Lib.hid (numB_syn ha)
    clear ha hp
    go_enter Tryz.func211, Tryz.ntmps211
    go_wp2_with fail
    refine HAT.out.mono ?_
    rintro e w1 ⟨N, rfl, _, _, hb1⟩
    clear HAT
    go_wp2_with fail
    go_ret2
    exact NumP.of HNF.out (fun h => by rw [HNF.out] at h; cases h) (by omega) hb1
  | range =>
    obtain ⟨tp, p, hp⟩ := HL.out.rng
    have HAT := Lib.hid (Tryz.strconv_Atoi_range_var s (by omega) ha tp p w hp)
    have HNF := Lib.hid (numB_rng ha)
    have hsb := Lib.atoiSat_bounds s.data.toList
    clear ha hp
    go_enter Tryz.func211, Tryz.ntmps211
    go_wp2_with fail
    refine HAT.out.mono ?_
    rintro e w1 ⟨N, rfl, _, _, hb1⟩
    generalize Lib.atoiSat s.data.toList = m at *
    clear HAT
    go_wp2_with fail
    go_ret2
    exact NumP.of HNF.out (fun h => by rw [HNF.out] at h; cases h) hsb hb1
end
theorem number_l (l : List UInt8) (hl : l.length ≤ 1000) (w : World) (hL : LayS w) : Calls Tryz.prog 211 #[.string ⟨l.toArray⟩] w (NumP l w) := by
  have := number_any ⟨l.toArray⟩ hl w hL
  simpa using this
theorem wordA_eq (w : List UInt8) : wordA w = (Lib.cut w [45]).1 := rfl
theorem wordB_yes {w : List UInt8} (h : (Lib.cut w [45]).2.2 = true) : wordB w = (Lib.cut w [45]).2.1 := by simp [wordB, h]
theorem wordB_no {w : List UInt8} (h : (Lib.cut w [45]).2.2 = false) : wordB w = (Lib.cut w [45]).1 := by simp [wordB, h]
def RetUEB (r : Nat × Int) (w : World) (e : Ending) (w' : World) : Prop := e = .returned (.tuple #[.int .u64 r.1, errV r.2]) ∧ Below w.heap.size w w'
theorem RetUEB.bad {r : Nat × Int} {f : Int} {v : Value} {w w' : World} (h : r = (0, f)) (hv : v = errV f) (hb : Below w.heap.size w w') : RetUEB r w (.returned (.tuple #[.int .u64 0, v])) w' := by
  subst h; subst hv; exact ⟨rfl, hb⟩
theorem RetUEB.ok {r : Nat × Int} {a : Nat} {w w' : World} (h : r = (a, 0)) (hb : Below w.heap.size w w') : RetUEB r w (.returned (.tuple #[.int .u64 a, .nilIface])) w' := by
  subst h; exact ⟨rfl, hb⟩
theorem size_data (s : ByteArray) : s.data.toList.length = s.size := rfl
section
attribute [local irreducible] numB num goW orR wordA wordB parseP wordsB Lib.cut
set_option maxRecDepth 100000 in
set_option maxHeartbeats 4000000 in
theorem Parse_any (s : ByteArray) (hs : s.size ≤ 7000) (w : World) (hL : LayS w) : Calls Tryz.prog 171 #[.string s] w (RetUEB (parseP s.data.toList) w) := by
  by_cases h3 : 300 < s.size
  · have HF : Hid (parseP s.data.toList = (0, 2)) := Lib.hid (by unfold parseP; rw [if_pos (by rw [size_data]; exact h3)])
    clear hL
    go_enter Tryz.func171, Tryz.ntmps171
    go_wp2_with fail
    go_ret2
    exact RetUEB.bad HF.out (by rw [errV_pos 2 (by omega)]; rfl) (Below.refl _ _)
  by_cases h0 : s.size = 0
  · have hnil : s.data.toList = [] := List.length_eq_zero_iff.1 h0
    have HF : Hid (parseP s.data.toList = (0, 0)) := Lib.hid (by unfold parseP; rw [if_neg (by rw [size_data]; omega), if_pos hnil])
    obtain rfl : s = ⟨#[]⟩ := Go.WideShapes.bytes_inj (by rw [hnil])
    clear hL
    go_enter Tryz.func171, Tryz.ntmps171
    go_wp2_with fail
    go_ret2
    exact RetUEB.ok HF.out (Below.refl _ _)
  have hne : s.data.toList ≠ [] := fun h => h0 (by rw [← size_data, h]; rfl)
  have HP : Hid (parseP s.data.toList = goW 0 (wordsP s.data.toList)) := Lib.hid (by unfold parseP; rw [if_neg (by rw [size_data]; omega), if_neg hne])
  have hE : s.toList.isEmpty = false := by rw [data_list]; cases hh : s.data.toList with
    | nil => exact absurd hh hne
    | cons a l => rfl
  have hE2 : ¬ s.toList = [] := by rw [data_list]; exact hne
  obtain ⟨m, hm⟩ := hL.lay.most
  have HSP := Lib.hid (Tryz.strings_Split s ⟨#[44]⟩ m w (by omega) hm (by decide))
  have HWL := Lib.hid (wordsB_len s)
  have HWD := Lib.hid (wordsB_data s)
  have HWE := Lib.hid (wordsB_le s)
  have hfew := wordsB_few s
  have HL := Lib.hid hL
  have HSP2 : Hid (Calls Tryz.prog 101 #[.string s, .string ⟨#[44]⟩] w fun e w' => e = .returned (.slice (some ⟨w.heap.size, 0, none⟩) (wordsB s).length (wordsB s).length) ∧ w' = w.alloc (.cells ((wordsB s).map Value.string).toArray 9)) := Lib.hid (by
    rw [HWL.out]
    have := HSP.out
    unfold wordsB
    exact this)
  clear hL hm HSP HWL h0
  go_enter Tryz.func171, Tryz.ntmps171
  go_wp2_with fail
  refine HSP2.out.mono ?_
  rintro e w1 ⟨rfl, rfl⟩
  have k1 := Blk.new w 9 ((wordsB s).map Value.string).toArray
  have hb1 : Below w.heap.size w (w.alloc (.cells ((wordsB s).map Value.string).toArray 9)) := (Below.refl _ _).alloc (Nat.le_refl _) _
  generalize w.alloc (.cells ((wordsB s).map Value.string).toArray 9) = w1 at *
  have HK := Lib.hid k1
  obtain ⟨L, hLd⟩ : ∃ L, L = wordsB s := ⟨_, rfl⟩
  rw [← hLd] at HWD HWE hfew HK ⊢
  have HP0 : Hid (parseP s.data.toList = goW 0 ((L.map fun b : ByteArray => b.data.toList).drop 0)) := Lib.hid (by rw [HP.out, ← HWD.out]; rfl)
  clear HSP2 HP HWD k1 hLd hne hE hE2
  go_wp2_with fail
  go_loopw [4, 24] (fun o i wi => ∃ (k a : Nat), i = .int .i64 k ∧ k ≤ L.length ∧ o = .int .u64 a ∧ a < 18446744073709551616 ∧ Hid (parseP s.data.toList = goW a ((L.map fun b : ByteArray => b.data.toList).drop k)) ∧ Hid (Blk wi w.heap.size 9 (L.map Value.string).toArray) ∧ Below w.heap.size w wi) (fun _ i _ => L.length - (intOf i).toNat)
  case atStart => exact ⟨0, 0, rfl, by omega, rfl, by omega, HP0, HK, hb1⟩
  case round =>
    clear HP0 HK hb1
    obtain ⟨k, a, rfl, hk, rfl, ha, HG, HK, hb⟩ := hrel
    by_cases hlt : k < L.length
    · have g0 : wr.cell? ⟨w.heap.size, k, none⟩ = some (.string L[k]) := by rw [HK.out.cell]; simp [hlt]
      have hwd := HWE.out L[k] (List.getElem_mem hlt)
      have hkm : k < (L.map fun b : ByteArray => b.data.toList).length := by simpa using hlt
      have hel : (L.map fun b : ByteArray => b.data.toList)[k] = L[k].data.toList := by simp
      have hbad := fun h => goW_bad hkm HG.out h
      have hfar := fun h1 h2 h3 h4 => goW_far hkm HG.out h1 h2 h3 h4
      have hnex := fun h1 h2 h3 h4 => goW_next hkm HG.out h1 h2 h3 h4
      rw [hel] at hbad hfar hnex
      have HCUT := Lib.hid (cut_any L[k] ⟨#[45]⟩ (by omega) wr (HL.out.below hb).lay)
      have hcl := cut_le L[k].data.toList 45
      rw [size_data] at hcl
      have lk := HK.out.lt
      rw [wordA_eq] at hbad hfar hnex
      have HWY := Lib.hid (wordB_yes (w := L[k].data.toList))
      have HWN := Lib.hid (wordB_no (w := L[k].data.toList))
      generalize wordB L[k].data.toList = wb at *
      have HCUT2 : Hid (Calls Tryz.prog 99 #[.string L[k], .string ⟨#[45]⟩] wr (fun e w' => e = .returned (.tuple #[.string ⟨(Lib.cut L[k].data.toList [45]).1.toArray⟩, .string ⟨(Lib.cut L[k].data.toList [45]).2.1.toArray⟩, .bool (Lib.cut L[k].data.toList [45]).2.2]) ∧ Below wr.heap.size wr w')) := Lib.hid HCUT.out
      generalize (Lib.cut L[k].data.toList [45]).1 = c1 at *
      generalize (Lib.cut L[k].data.toList [45]).2.1 = c2 at *
      generalize (Lib.cut L[k].data.toList [45]).2.2 = cb at *
      generalize L[k] = wd at *
      have HBAD := Lib.hid hbad
      have HFAR := Lib.hid hfar
      have HNEX := Lib.hid hnex
      have HN1 := Lib.hid (fun W (hW : Below w.heap.size w W) => number_l c1 (by omega) W (HL.out.below hW))
      have HN2 := Lib.hid (fun W (hW : Below w.heap.size w W) => number_l c2 (by omega) W (HL.out.below hW))
      clear hbad hfar hnex HCUT hkm hel HG
      go_wp2_with fail
      refine HCUT2.out.mono ?_
      rintro e w2 ⟨rfl, hb2⟩
      have HK2 := Lib.hid (HK.out.below hb2 lk)
      have hb2' := hb.trans (hb2.mono hb.size)
      clear HK hb2 hb HCUT2 g0 lk
      go_wp2_with fail
      refine (HN1.out _ hb2').mono ?_
      intro e w3 hP
      have hP2 : NumP c1 w2 e w3 := hP
      obtain ⟨m1, rfl, hm1, hmb1, hb3⟩ := hP2
      have HK3 := Lib.hid (HK2.out.below hb3 HK2.out.lt)
      have hb3' := hb2'.trans (hb3.mono hb2'.size)
      have HM1 := Lib.hid hm1
      clear hP hm1 HK2 hb3 hb2' HN1
      cases cb
      · obtain rfl := HWN.out rfl
        clear HWY HWN HN2
        cases hn1 : numB wb
        · have HX := Lib.hid (HBAD.out (.inl hn1))
          clear HBAD HFAR HNEX hn1
          go_wp2_with fail
          go_ret2
          exact RetUEB.bad HX.out (by rw [errV_pos 4 (by omega)]; rfl) hb3'
        · obtain rfl := HM1.out hn1
          by_cases hfa : 64 ≤ num wb
          · have HX := Lib.hid (HFAR.out hn1 hn1 (by omega) hfa)
            clear HBAD HFAR HNEX hn1 HM1
            go_wp2_with fail
            go_ret2
            exact RetUEB.bad HX.out (by rw [errV_pos 1 (by omega)]; rfl) hb3'
          have HX := Lib.hid (HNEX.out hn1 hn1 (by omega) (by omega))
          clear HBAD HFAR HNEX hn1 HM1
          have hfa2 : (num wb : Int) < 64 := by omega
          generalize num wb = x1 at *
          have HO0 := Lib.hid (orR_zero a x1)
          go_wp2_with fail
          go_loop [4, 14] (fun o n => ∃ j : Nat, n = .int .i64 ((x1 : Int) + j) ∧ j ≤ x1 + 1 - x1 ∧ o = .int .u64 (orR a x1 j)) (fun _ n => (x1 + 1 - (intOf n).toNat : Nat))
          case atStart => exact ⟨0, by simp, by omega, by rw [HO0.out]⟩
          case round =>
            obtain ⟨j, rfl, hj, rfl⟩ := hrel
            have hol := orR_lt (a := x1) (k := j) ha
            by_cases hjl : j < x1 + 1 - x1
            · have hsh := shl64s (x1 + j) (by omega)
              have HON : Hid (orR a x1 (j + 1) = orR a x1 j ||| 2 ^ (x1 + j)) := Lib.hid (orR_succ a x1 j)
              have hpl := pow_lt (n := x1 + j) (by omega)
              have HOR : Hid (bits .or .u64 ((orR a x1 j : Nat) : Int) ((2 : Int) ^ (x1 + j)) = ((orR a x1 j ||| 2 ^ (x1 + j) : Nat) : Int)) := Lib.hid (by rw [show (2 : Int) ^ (x1 + j) = ((2 ^ (x1 + j) : Nat) : Int) by simp]; exact u64_or_nat _ _ (hol (by omega)) hpl)
              have htn : ((x1 : Int) + j).toNat = x1 + j := by omega
              have hle : (x1 : Int) + j ≤ x1 := by omega
              generalize orR a x1 j = q at *
              go_wp2_with fail
              go_round
              case rel => exact ⟨j + 1, by first | go_num | (congr 1; omega), by omega, by rw [HOR.out, HON.out]⟩
              case measure => simp [intOf]; omega
            · obtain rfl : j = x1 + 1 - x1 := by omega
              have hqq := hol (by omega)
              generalize orR a x1 (x1 + 1 - x1) = q at *
              go_wp2_with fail
              go_roundw
              case rel => exact ⟨k + 1, q, by go_num, by omega, rfl, hqq, HX, HK3, hb3'⟩
              case measure => simp [intOf]; omega
      · obtain rfl := HWY.out rfl
        clear HWY HWN
        go_wp2_with fail
        refine (HN2.out _ hb3').mono ?_
        intro e w4 hP
        have hP2 : NumP wb w3 e w4 := hP
        obtain ⟨m2, rfl, hm2, hmb2, hb4⟩ := hP2
        have HK4 := Lib.hid (HK3.out.below hb4 HK3.out.lt)
        have hb4' := hb3'.trans (hb4.mono hb3'.size)
        have HM2 := Lib.hid hm2
        clear hP hm2 HK3 hb4 hb3' HN2
        cases hn1 : numB c1
        · have HX := Lib.hid (HBAD.out (.inl hn1))
          try rw [hn1]
          clear HBAD HFAR HNEX hn1
          go_wp2_with fail
          go_ret2
          exact RetUEB.bad HX.out (by rw [errV_pos 4 (by omega)]; rfl) hb4'
        · obtain rfl := HM1.out hn1
          cases hn2 : numB wb
          · have HX := Lib.hid (HBAD.out (.inr (.inl hn2)))
            clear HBAD HFAR HNEX hn1 hn2
            go_wp2_with fail
            go_ret2
            exact RetUEB.bad HX.out (by rw [errV_pos 4 (by omega)]; rfl) hb4'
          · obtain rfl := HM2.out hn2
            by_cases hlo : num wb < num c1
            · have HX := Lib.hid (HBAD.out (.inr (.inr hlo)))
              clear HBAD HFAR HNEX hn1 hn2 HM1 HM2
              go_wp2_with fail
              go_ret2
              exact RetUEB.bad HX.out (by rw [errV_pos 4 (by omega)]; rfl) hb4'
            by_cases hfa : 64 ≤ num wb
            · have HX := Lib.hid (HFAR.out hn1 hn2 (by omega) hfa)
              clear HBAD HFAR HNEX hn1 hn2 HM1 HM2
              go_wp2_with fail
              go_ret2
              exact RetUEB.bad HX.out (by rw [errV_pos 1 (by omega)]; rfl) hb4'
            have HX := Lib.hid (HNEX.out hn1 hn2 (by omega) (by omega))
            clear HBAD HFAR HNEX hn1 hn2 HM1 HM2
            have hfa2 : (num wb : Int) < 64 := by omega
            have hlo2 : ¬ num wb < num c1 := hlo
            generalize num c1 = x1 at *
            generalize num wb = x2 at *
            have HO0 := Lib.hid (orR_zero a x1)
            go_wp2_with fail
            go_loop [4, 14] (fun o n => ∃ j : Nat, n = .int .i64 ((x1 : Int) + j) ∧ j ≤ x2 + 1 - x1 ∧ o = .int .u64 (orR a x1 j)) (fun _ n => (x2 + 1 - (intOf n).toNat : Nat))
            case atStart => exact ⟨0, by simp, by omega, by rw [HO0.out]⟩
            case round =>
              obtain ⟨j, rfl, hj, rfl⟩ := hrel
              have hol := orR_lt (a := x1) (k := j) ha
              by_cases hjl : j < x2 + 1 - x1
              · have hsh := shl64s (x1 + j) (by omega)
                have HON : Hid (orR a x1 (j + 1) = orR a x1 j ||| 2 ^ (x1 + j)) := Lib.hid (orR_succ a x1 j)
                have hpl := pow_lt (n := x1 + j) (by omega)
                have HOR : Hid (bits .or .u64 ((orR a x1 j : Nat) : Int) ((2 : Int) ^ (x1 + j)) = ((orR a x1 j ||| 2 ^ (x1 + j) : Nat) : Int)) := Lib.hid (by rw [show (2 : Int) ^ (x1 + j) = ((2 ^ (x1 + j) : Nat) : Int) by simp]; exact u64_or_nat _ _ (hol (by omega)) hpl)
                have htn : ((x1 : Int) + j).toNat = x1 + j := by omega
                have hle : (x1 : Int) + j ≤ x2 := by omega
                generalize orR a x1 j = q at *
                go_wp2_with fail
                go_round
                case rel => exact ⟨j + 1, by first | go_num | (congr 1; omega), by omega, by rw [HOR.out, HON.out]⟩
                case measure => simp [intOf]; omega
              · obtain rfl : j = x2 + 1 - x1 := by omega
                have hqq := hol (by omega)
                generalize orR a x1 (x2 + 1 - x1) = q at *
                go_wp2_with fail
                go_roundw
                case rel => exact ⟨k + 1, q, by go_num, by omega, rfl, hqq, HX, HK4, hb4'⟩
                case measure => simp [intOf]; omega
    · obtain rfl : k = L.length := by omega
      have HX : Hid (parseP s.data.toList = (a, 0)) := Lib.hid (by rw [HG.out, List.drop_eq_nil_of_le (by simp)]; unfold goW; rfl)
      clear HG
      go_wp2_with fail
      go_ret2
      exact RetUEB.ok HX.out hb
end
end Go.Proofs.YticmfflnenoplacGreatDoor
namespace Go.Proofs.YticmfflnenoplacGreatDoor
open Go.RowKit Go.Deep Pop Bi Am
namespace Bi
/-- Words, the first of which is under way. -/
def splitP (p : List UInt8) : List UInt8 → List (List UInt8)
  | [] => [p]
  | c :: l => if c = 44 then p :: splitP [] l else splitP (p ++ [c]) l
theorem index_at (p r : List UInt8) (h : (44 : UInt8) ∉ p) : Lib.indexByte (p ++ 44 :: r) 44 = p.length := by
  induction p with
  | nil => simp [Lib.indexByte]
  | cons c p ih =>
    simp only [List.mem_cons, not_or] at h
    have hc : (c == 44) = false := by simp; exact fun e => h.1 e.symm
    rw [List.cons_append, Lib.indexByte, hc, ih h.2]
    simp
theorem split_is : ∀ (l p : List UInt8), (44 : UInt8) ∉ p → Lib.split (p ++ l) [44] = splitP p l
  | [], p, h => by
    rw [List.append_nil]
    unfold Lib.split
    rw [Lib.count_one, List.count_eq_zero_of_not_mem h]
    rfl
  | c :: r, p, h => by
    by_cases hc : c = 44
    · subst hc
      simp only [splitP, if_true]
      rw [← split_is r [] (by simp), List.nil_append]
      unfold Lib.split
      rw [Lib.count_one, Lib.count_one, List.count_append, List.count_eq_zero_of_not_mem h, List.count_cons_self, Nat.zero_add, Lib.splitK, Lib.index_one, index_at p r h]
      rw [if_neg (by simp)]
      simp
    · simp only [splitP, if_neg hc]
      rw [← split_is r (p ++ [c]) (by simp [h]; exact fun e => hc e.symm), List.append_assoc]
      rfl
theorem wordsP_is (s : List UInt8) : wordsP s = splitP [] s := split_is s [] (by simp)
theorem ext_data (s : ByteArray) (a b : Nat) : (s.extract a b).data.toList = (s.data.toList.take b).drop a := by
  rw [ByteArray.data_extract, Array.toList_extract, List.extract_eq_take_drop, List.drop_take]
/-- What the loop knows: the words done, where the one under way begins. -/
def WordsAt (s : List UInt8) (D : List ByteArray) (f i : Nat) : Prop := wordsP s = D.map (fun b : ByteArray => b.data.toList) ++ splitP ((s.take i).drop f) (s.drop i)
theorem words_start (s : List UInt8) : WordsAt s [] 0 0 := by unfold WordsAt; rw [wordsP_is]; rfl
theorem words_cut {s : List UInt8} {D : List ByteArray} {f i : Nat} (h : WordsAt s D f i) (hi : i < s.length) (hc : s[i] = 44) {x : ByteArray} (hx : x.data.toList = (s.take i).drop f) : WordsAt s (D ++ [x]) (i + 1) (i + 1) := by
  unfold WordsAt at *
  rw [h, List.drop_eq_getElem_cons hi, hc]
  simp only [splitP, if_true]
  have : (s.take (i + 1)).drop (i + 1) = [] := List.drop_eq_nil_of_le (by simp; omega)
  rw [this, List.map_append, List.map_cons, List.map_nil, hx, List.append_assoc]
  rfl
theorem words_go {s : List UInt8} {D : List ByteArray} {f i : Nat} (h : WordsAt s D f i) (hi : i < s.length) (hc : s[i] ≠ 44) (hf : f ≤ i) : WordsAt s D f (i + 1) := by
  unfold WordsAt at *
  rw [h, List.drop_eq_getElem_cons hi]
  simp only [splitP, if_neg hc]
  have : (s.take (i + 1)).drop f = (s.take i).drop f ++ [s[i]] := by
    rw [List.take_succ_eq_append_getElem hi, List.drop_append_of_le_length (by simp; omega)]
  rw [this]
theorem words_last {s : List UInt8} {D : List ByteArray} {f : Nat} (h : WordsAt s D f s.length) {x : ByteArray} (hx : x.data.toList = (s.take s.length).drop f) : wordsP s = (D ++ [x]).map (fun b : ByteArray => b.data.toList) := by
  unfold WordsAt at h
  rw [h, List.drop_length]
  simp only [splitP]
  rw [List.map_append, List.map_cons, List.map_nil, hx]
theorem u8_44 (c : UInt8) : (c.toNat : Int) = 44 ↔ c = 44 := by
  rw [← UInt8.toNat_inj]
  show _ ↔ c.toNat = 44
  omega
def strsV (D : List ByteArray) : List Value := D.map Value.string
theorem strsV_nil : strsV [] = [] := rfl
theorem strsV_snoc (D : List ByteArray) (x : ByteArray) : strsV (D ++ [x]) = strsV D ++ [.string x] := by simp [strsV]
end Bi
def WordsR (s : ByteArray) (w : World) (e : Ending) (w' : World) : Prop := ∃ (A : Option Addr) (c : Nat) (D : List ByteArray), e = .returned (.slice A D.length c) ∧ D.map (fun b : ByteArray => b.data.toList) = wordsP s.data.toList ∧ (∀ x ∈ D, x.size ≤ s.size) ∧ D.length ≤ s.size + 1 ∧ w'.ownsRow w.heap.size 9 1 (.slice A D.length c) D.length (strsV D) ∧ Below w.heap.size w w'
section
attribute [local irreducible] WordsAt wordsP strsV
end
end Go.Proofs.YticmfflnenoplacGreatDoor
