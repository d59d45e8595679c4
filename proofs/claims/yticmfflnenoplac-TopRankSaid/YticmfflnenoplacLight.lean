/- The laws' own bounds on their inputs (LightUses, LightPod, LightActs): each returns just whether its input is light. -/
import Derived.Test.YticmfflnenoplacRead
import Derived.Test.YticmfflnenoplacComm
namespace Go.Proofs.Yticmfflnenoplac
open Go.RowKit Go.Deep Da

def lightUse (u : Use) : Bool := decide (u.name.size ≤ 30) && decide (-1125899906842624 ≤ u.bytes) && decide (u.bytes ≤ 1125899906842624)
def lightUses (l : List Use) : Bool := decide (l.length ≤ 20) && l.all lightUse
def lightNeed (n : Need) : Bool := decide (n.kind.size ≤ 30)
def lightCont (c : Cont) : Bool := decide (c.name.size ≤ 30) && decide (c.devs.length ≤ 5) && c.devs.all lightNeed
def lightPod (p : Pod) : Bool := decide (p.name.size ≤ 30) && decide (p.conts.length ≤ 5) && p.conts.all lightCont
def lightAct (a : LAct) : Bool := decide (a.s.size ≤ 7000) && decide (a.l.length ≤ 30) && lightPod a.pod && lightUses a.uses
def lightActs (l : List LAct) (n : Int) : Bool := decide ((l.length : Int) ≤ n) && l.all lightAct

theorem all_take_succ {α : Type} (p : α → Bool) (l : List α) (k : Nat) (hk : k < l.length) (h : (l.take k).all p = true) (hp : p l[k] = true) : (l.take (k + 1)).all p = true := by
  rw [List.take_succ_eq_append_getElem hk, List.all_append, h]
  simp [hp]
theorem all_false {α : Type} (p : α → Bool) (l : List α) (k : Nat) (hk : k < l.length) (hp : p l[k] = false) : l.all p = false := by
  rw [List.all_eq_false]
  exact ⟨l[k], List.getElem_mem _, by simp [hp]⟩
theorem all_full {α : Type} (p : α → Bool) (l : List α) (k : Nat) (hk : l.length ≤ k) (h : (l.take k).all p = true) : l.all p = true := by
  rwa [List.take_of_length_le hk] at h

theorem RetB.mk' {b b' : Bool} {w : World} (h : b = b') : RetB b w (.returned (.bool b')) w := ⟨by rw [h], rfl⟩
theorem RetBB.mk' {b b' : Bool} {w w' : World} (h : b = b') (hb : Below w.heap.size w w') : RetBB b w (.returned (.bool b')) w' := ⟨by rw [h], hb⟩

set_option maxHeartbeats 1000000 in
theorem lightUses_any (v : Value) (l : List Use) (w : World) (B : Nat) (h : RSlice w B 2 RUse [v] l) :
    Calls Try.prog 7 #[v] w (RetB (lightUses l) w) := by
  obtain ⟨A, cap, hv, hl, hcap, hA⟩ := h.form
  obtain rfl : v = _ := by simpa using hv
  unfold maxLen at hcap
  by_cases hn : 20 < l.length
  · go_enter Try.func7, Try.ntmps7
    go_wp2
    go_ret
    exact RetB.mk' (by simp [lightUses]; omega)
  · go_enter Try.func7, Try.ntmps7
    go_wp2
    go_loop [3] (fun i => ∃ k : Nat, i = .int .i64 k ∧ k ≤ l.length ∧ Hid ((l.take k).all lightUse = true)) (fun i => l.length - (intOf i).toNat)
    case atStart => exact ⟨0, rfl, by omega, rfl⟩
    case round =>
      obtain ⟨k, rfl, hk, ha⟩ := hrel
      by_cases hlt : k < l.length
      · obtain ⟨b, off, rfl⟩ := hA k hlt
        obtain ⟨_, cs', hc1, hc2, hr1, hr2, hr3⟩ := h.at_ hlt
        have g0 := hc2 0 (.string l[k].name) (by rw [hr1]; rfl)
        have g1 := hc2 1 (.int .i64 l[k].bytes) (by rw [hr1]; rfl)
        simp only [Nat.add_zero] at g0
        clear hc2 hr1 hA hc1
        unfold maxLen at hr2
        by_cases h1 : 30 < l[k].name.size
        · have hf := Lib.hid (all_false lightUse l k hlt (by simp [lightUse]; omega))
          go_wp2
          go_ret
          exact RetB.mk' (by simp [lightUses, hf.out])
        · by_cases h2 : l[k].bytes < -1125899906842624
          · have hf := Lib.hid (all_false lightUse l k hlt (by simp [lightUse]; omega))
            go_wp2
            go_ret
            exact RetB.mk' (by simp [lightUses, hf.out])
          · by_cases h3 : 1125899906842624 < l[k].bytes
            · have hf := Lib.hid (all_false lightUse l k hlt (by simp [lightUse]; omega))
              go_wp2
              go_ret
              exact RetB.mk' (by simp [lightUses, hf.out])
            · have hf := Lib.hid (all_take_succ lightUse l k hlt ha.out (by simp [lightUse]; omega))
              go_wp2
              go_round
              case rel => exact ⟨k + 1, by go_num, by omega, hf.out⟩
              case measure => simp [intOf]; omega
      · have hf := Lib.hid (all_full lightUse l k (by omega) ha.out)
        go_wp2
        go_ret
        exact RetB.mk' (by simp [lightUses, hf.out]; omega)

set_option maxHeartbeats 2000000 in
theorem lightPod_any (cs : List Value) (p : Pod) (w : World) (B : Nat) (hB : B ≤ w.heap.size) (h : RPod w B cs p) :
    Calls Try.prog 19 #[.agg cs.toArray] w (RetBB (lightPod p) w) := by
  obtain ⟨cv, rfl, hps, hpr, hc⟩ := h
  obtain ⟨A, cap, hv, hl, hcap, hA⟩ := hc.form
  obtain rfl : cv = _ := by simpa using hv
  unfold maxLen at hcap hps
  by_cases hn : 30 < p.name.size
  · go_enter Try.func19, Try.ntmps19
    go_wp2
    go_ret
    exact RetBB.mk' (by simp [lightPod]; omega) ((Below.refl _ _).alloc (Nat.le_refl _) _)
  by_cases hn2 : 5 < p.conts.length
  · go_enter Try.func19, Try.ntmps19
    go_wp2
    go_ret
    exact RetBB.mk' (by simp [lightPod]; omega) ((Below.refl _ _).alloc (Nat.le_refl _) _)
  have hlp := Lib.hid (show lightPod p = p.conts.all lightCont by simp [lightPod]; omega)
  go_enter Try.func19, Try.ntmps19
  go_wp2_with fail
  go_loopw [3] (fun i wr => ∃ k : Nat, i = .int .i64 k ∧ k ≤ p.conts.length ∧ Hid ((p.conts.take k).all lightCont = true) ∧ Below w.heap.size w wr ∧ Blk wr w.heap.size 28 #[.string p.name, .int .i64 p.prio, .slice A p.conts.length cap]) (fun i _ => p.conts.length - (intOf i).toNat)
  case atStart => exact ⟨0, rfl, by omega, rfl, (Below.refl _ _).alloc (Nat.le_refl _) _, Blk.new _ _ _⟩
  case round =>
    obtain ⟨k, rfl, hk, ha, hbw, hbk⟩ := hrel
    have hcell := hbk.cells
    by_cases hlt : k < p.conts.length
    · obtain ⟨b, off, rfl⟩ := hA k hlt
      obtain ⟨hblt, cs', hc1, hc2, dv, hr1, hr2, _, _, _, _, hds⟩ := (hc.below (hbw.mono hB)).at_ hlt
      obtain ⟨A2, cap2, hv2, hl2, hcap2, hA2⟩ := hds.form
      obtain rfl : dv = _ := by simpa using hv2
      have g0 := hc2 0 (.string p.conts[k].name) (by rw [hr1]; rfl)
      have g1 := hc2 1 _ (by rw [hr1]; rfl)
      have g2 := hc2 2 _ (by rw [hr1]; rfl)
      have g3 := hc2 3 _ (by rw [hr1]; rfl)
      have g4 := hc2 4 _ (by rw [hr1]; rfl)
      have g5 := hc2 5 _ (by rw [hr1]; rfl)
      simp only [Nat.add_zero] at g0
      clear hc2 hr1 hA hc1 hv hv2
      unfold maxLen at hr2 hcap2
      by_cases h1 : 30 < p.conts[k].name.size
      · have hf := Lib.hid (all_false lightCont p.conts k hlt (by simp [lightCont]; omega))
        go_wp2_with fail
        go_ret
        exact RetBB.mk' (by rw [hlp.out, hf.out]) (hbw.alloc hbw.size _)
      by_cases h2 : 5 < p.conts[k].devs.length
      · have hf := Lib.hid (all_false lightCont p.conts k hlt (by simp [lightCont]; omega))
        go_wp2_with fail
        go_ret
        exact RetBB.mk' (by rw [hlp.out, hf.out]) (hbw.alloc hbw.size _)
      have hdsr := (hds.below (w' := wr.alloc (.cells #[.string p.conts[k].name, .int .i64 p.conts[k].askM, .int .i64 p.conts[k].askB, .int .i64 p.conts[k].capM, .int .i64 p.conts[k].capB, .slice A2 p.conts[k].devs.length cap2] 56)) ((hbw.mono hB).alloc (Nat.le_trans hB hbw.size) _))
      have hlc := Lib.hid (show lightCont p.conts[k] = p.conts[k].devs.all lightNeed by simp [lightCont]; omega)
      go_wp2_with fail
      go_loop [5] (fun i => ∃ j : Nat, i = .int .i64 j ∧ j ≤ p.conts[k].devs.length ∧ Hid ((p.conts[k].devs.take j).all lightNeed = true)) (fun i => p.conts[k].devs.length - (intOf i).toNat)
      case atStart => exact ⟨0, rfl, by omega, rfl⟩
      case round =>
        obtain ⟨j, rfl, hj, ha2⟩ := hrel
        by_cases hlt2 : j < p.conts[k].devs.length
        · obtain ⟨b2, off2, rfl⟩ := hA2 j hlt2
          obtain ⟨_, cs2, hc1, hc2, hr1, hr2, _⟩ := hdsr.at_ hlt2
          have f0 := hc2 0 (.string p.conts[k].devs[j].kind) (by rw [hr1]; rfl)
          simp only [Nat.add_zero] at f0
          clear hc2 hr1 hc1
          unfold maxLen at hr2
          by_cases h3 : 30 < p.conts[k].devs[j].kind.size
          · have hf := Lib.hid (all_false lightNeed p.conts[k].devs j hlt2 (by simp [lightNeed]; omega))
            have hf2 := Lib.hid (all_false lightCont p.conts k hlt (by rw [hlc.out, hf.out]))
            go_wp2_with fail
            go_ret
            exact RetBB.mk' (by rw [hlp.out, hf2.out]) (hbw.alloc hbw.size _)
          · have hf := Lib.hid (all_take_succ lightNeed p.conts[k].devs j hlt2 ha2.out (by simp [lightNeed]; omega))
            go_wp2_with fail
            go_round
            case rel => exact ⟨j + 1, by go_num, by omega, hf.out⟩
            case measure => simp [intOf]; omega
        · have hf := Lib.hid (all_full lightNeed p.conts[k].devs j (by omega) ha2.out)
          have hf2 := Lib.hid (all_take_succ lightCont p.conts k hlt ha.out (by rw [hlc.out, hf.out]))
          go_wp2_with fail
          go_roundw
          case rel => exact ⟨k + 1, by go_num, by omega, hf2.out, hbw.alloc hbw.size _, hbk.alloc _⟩
          case measure => simp [intOf]; omega
    · have hf := Lib.hid (all_full lightCont p.conts k (by omega) ha.out)
      go_wp2_with fail
      go_ret
      exact RetBB.mk' (by rw [hlp.out, hf.out]) hbw

end Go.Proofs.Yticmfflnenoplac
