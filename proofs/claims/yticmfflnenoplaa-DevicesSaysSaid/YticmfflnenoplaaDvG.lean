/- Devices: the reference's Claim: its walk. No statement is proved here. -/
import Derived.Test.YticmfflnenoplaaDvE
import Derived.Test.YticmfflnenoplaaDvF
namespace Go.Proofs.Yticmfflnenoplaa
open Go.RowKit Dv
theorem below_drewN7 {B : Nat} {a w : World} (h : Below B a w) (n : Nat) : Below B a (w.drewN n) := ⟨h.os, h.tape, h.output, h.size, h.block⟩
theorem has_snoc (l : List Int) (y x : Int) : (l ++ [y]).contains x = (l.contains x || (y == x)) := by
  rw [Bool.eq_iff_iff]
  simp only [List.contains_iff_mem, Bool.or_eq_true, List.mem_append, List.mem_singleton, beq_iff_eq]
  constructor
  · rintro (h | h)
    · exact .inl h
    · exact .inr h.symm
  · rintro (h | h)
    · exact .inl h
    · exact .inr h.symm
theorem has_succ (xs : List Int) (m : Nat) (hm : m < xs.length) (x : Int) : (xs.take (m + 1)).contains x = ((xs.take m).contains x || (xs[m] == x)) := by
  rw [List.take_succ_eq_append_getElem hm, has_snoc]
def RClaimP (base bp : Nat) (vl : Value) (l : List Dev) (u : List Bool) (give : Bool) (xs : List Int) (w : World) (e : Ending) (w' : World) : Prop :=
  e = .returned (.int .i64 (claimF u give xs)) ∧ RIs w' base bp vl l (claimU u give xs) ∧ Kept (fun k => k = bp) w w'
theorem RClaimP.bad {base bp : Nat} {vl : Value} {l : List Dev} {u : List Bool} {give : Bool} {xs : List Int} {w w' : World} (h : RIs w' base bp vl l u) (hk : Kept (fun k => k = bp) w w') {f : Int} (hf : claimF u give xs = f) (h0 : f ≠ 0) {v : Value} (hv : v = .int .i64 f) : RClaimP base bp vl l u give xs w (.returned v) w' :=
  ⟨by rw [hf, hv], by unfold claimU; rw [if_neg (by rw [hf]; exact h0)]; exact h, hk⟩
structure RMkd (base bp : Nat) (vl : Value) (l : List Dev) (u : List Bool) (w wi : World) : Prop where
  is : RIs wi base bp vl l u
  kept : Kept (fun k => k = bp) w wi
theorem RIs.mark {w : World} {base bp : Nat} {vl : Value} {l : List Dev} {u : List Bool} (h : RIs w base bp vl l u) {i : Nat} (hi : i < u.length) (b : Bool) : RIs (w.setCell ⟨bp, 1 + i, none⟩ (.bool b)) base bp vl l (u.set i b) := by
  have hk : Kept (fun k => k = bp) w (w.setCell ⟨bp, 1 + i, none⟩ (.bool b)) := (Kept.refl _ _).set1 _
  refine ⟨(h.blk.set_ (1 + i) _).cast (pad_set vl u i hi b), h.rl.kept hk (fun q hq hh => ?_), by simpa using h.len⟩
  subst hh
  exact own_blk_ne h.rl.row h.blk (by decide) hq
theorem RMkd.set_ {base bp : Nat} {vl : Value} {l : List Dev} {u : List Bool} {w wi : World} (h : RMkd base bp vl l u w wi) {i : Nat} (hi : i < u.length) (b : Bool) : RMkd base bp vl l (u.set i b) w (wi.setCell ⟨bp, 1 + i, none⟩ (.bool b)) :=
  ⟨RIs.mark h.is hi b, h.kept.set1 _⟩
theorem RIs.drewN {w : World} {base bp : Nat} {vl : Value} {l : List Dev} {u : List Bool} (h : RIs w base bp vl l u) (n : Nat) : RIs (w.drewN n) base bp vl l u := ⟨h.blk, ⟨h.rl.row, h.rl.many, h.rl.fine, h.rl.size⟩, h.len⟩
section
attribute [local irreducible] claimAt claimG claimF markU claimU pad
set_option maxRecDepth 100000 in
set_option maxHeartbeats 4000000 in
theorem RClaim_any (give : Bool) (base bp : Nat) (vl v : Value) (l : List Dev) (u : List Bool) (xs : List Int) (S : Nat → Prop) (w : World) (h : RIs w base bp vl l u) (hx : RS w S 1 RInt [v] xs) (hS : ∀ b, S b → b ≠ bp ∧ b < w.heap.size) :
    Calls Try.prog 98 #[.pointer (some ⟨bp, 0, none⟩), v, .bool give] w (RClaimP base bp vl l u give xs w) := by
  have hbl := h.blk.lt
  have HIS := Lib.hid h
  obtain ⟨A3, c3, hv, q5, q6, hA⟩ := hx.form
  obtain rfl : v = _ := by simpa using hv
  have hn := h.rl.many
  have HL := Lib.hid h.len
  have HA := Lib.hid hA
  have HX := Lib.hid hx
  have HS := Lib.hid hS
  unfold maxLen at q6
  clear h hv hA hx hS
  go_enter Try.func98, Try.ntmps98
  go_wp2_with fail
  go_loopw [7] (fun i wi => ∃ k : Nat, i = .int .i64 k ∧ k ≤ xs.length ∧ Below w.heap.size w wi ∧ Hid (∀ j (hj : j < xs.length), j < k → claimAt u give (xs.take j) xs[j] = 0)) (fun i _ => xs.length - (intOf i).toNat)
  case atStart => exact ⟨0, rfl, by omega, Below.refl _ _, Lib.hid (fun j hj h => by omega)⟩
  case round =>
    obtain ⟨k, rfl, hk, hb, HN⟩ := hrel
    have HIW := Lib.hid (HIS.out.below hb)
    by_cases hlt : k < xs.length
    · obtain ⟨b, off, rfl, hSb⟩ := HA.out k hlt
      have hbw := (HS.out b hSb).2
      have HXB : Hid (∀ W, Below w.heap.size w W → RS W S 1 RInt [.slice (some ⟨b, off, none⟩) xs.length c3] xs) := Lib.hid (fun W hW => HX.out.move (fun b hb => hW.block b (HS.out b hb).2) (fun _ h => h) (fun _ _ _ h => h))
      obtain ⟨g0, g1, g2⟩ := rs_int (HXB.out wr hb) hlt
      have HH := Lib.hid (fun f => claim_hit u give xs k hlt HN.out (f := f))
      have HS2 : Hid (claimAt u give (xs.take k) xs[k] = 0 → ∀ j (hj : j < xs.length), j < k + 1 → claimAt u give (xs.take j) xs[j] = 0) := Lib.hid (by
        intro a j hj hjk
        rcases (show j < k ∨ j = k by omega) with h | h
        · exact HN.out j hj h
        · subst h; exact a)
      have HCI := Lib.hid (fun n (hn : n < u.length) => claim_in (seen := xs.take k) hn)
      have HGI := Lib.hid (fun n (hn : n < u.length) => give_in (seen := xs.take k) hn)
      have HOUT := Lib.hid (claim_out (u := u) (give := give) (seen := xs.take k) (x := xs[k]))
      have HKC : Hid (∀ W, Below w.heap.size w W → W.cell? ⟨b, off + k, none⟩ = some (.int .i64 xs[k])) := Lib.hid (fun W hW => (rs_int (HXB.out W hW) hlt).1)
      clear HN
      generalize xs[k] = x at *
      have HRI := Lib.hid (RIs_any base bp vl l u x wr HIW.out)
      by_cases h1 : x < 0 ∨ (l.length : Int) ≤ x
      · have HF := Lib.hid (HH.out 1 (HOUT.out (by have := HL.out; omega)) (by omega))
        rw [isF_bad h1] at HRI
        clear HH HS2 HOUT HCI HGI h1
        go_wp2_with fail
        refine HRI.out.mono ?_
        rintro e w' ⟨rfl, rfl⟩
        go_wp2_with fail
        go_ret
        exact RClaimP.bad HIW.out (Kept.of_below hb) HF.out (by omega) rfl
      · rw [isF_ok (by omega) (by omega)] at HRI
        obtain ⟨n, rfl⟩ : ∃ n : Nat, x = n := ⟨x.toNat, by omega⟩
        have hnl : n < l.length := by omega
        have HCI2 := Lib.hid (HCI.out n (by have := HL.out; omega))
        have HGI2 := Lib.hid (HGI.out n (by have := HL.out; omega))
        have HCU : Hid (∀ W, Below w.heap.size w W → W.cell? ⟨bp, 1 + n, none⟩ = some (.bool (u[n]'(by have := HL.out; omega)))) := Lib.hid (fun W hW => (HIS.out.below hW).used hnl)
        generalize u[n]'(by have := HL.out; omega) = bu at *
        clear HOUT HCI HGI h1
        go_wp2_with fail
        refine HRI.out.mono ?_
        rintro e w' ⟨rfl, rfl⟩
        go_wp2_with fail
        go_loopw [9, 10] (fun tw j wi => ∃ m : Nat, j = .int .i64 m ∧ m ≤ k ∧ ∃ t : Bool, tw = .bool t ∧ Hid (t = (xs.take m).contains (n : Int)) ∧ Below w.heap.size w wi) (fun _ j _ => k - (intOf j).toNat)
        case atStart => exact ⟨0, rfl, by omega, false, rfl, Lib.hid (by simp), hb⟩
        case round =>
          obtain ⟨m, rfl, hm, t, rfl, HT, hbi⟩ := hrel
          by_cases hlt3 : m < k
          · have hml : m < xs.length := by omega
            have g3 := HKC.out wr hbi
            obtain ⟨g4, g5, g6⟩ := rs_int (HXB.out wr hbi) hml
            have HNX := Lib.hid (has_succ xs m hml (n : Int))
            generalize xs[m] = y at *
            cases t
            · cases hyn : (y == (n : Int))
              · have HF : Hid (false = (xs.take (m + 1)).contains (n : Int)) := Lib.hid (by rw [HNX.out, ← HT.out, hyn]; rfl)
                clear HNX
                go_wp2_with fail
                go_quiet (fail)
                go_wp2_with fail
                go_roundw
                case rel => exact ⟨m + 1, by go_num, by omega, false, rfl, HF, below_drewN7 hbi _⟩
                case measure => simp [intOf]; omega
              · have HF : Hid (true = (xs.take (m + 1)).contains (n : Int)) := Lib.hid (by rw [HNX.out, ← HT.out, hyn]; rfl)
                clear HNX
                go_wp2_with fail
                go_quiet (fail)
                go_wp2_with fail
                go_roundw
                case rel => exact ⟨m + 1, by go_num, by omega, true, rfl, HF, below_drewN7 hbi _⟩
                case measure => simp [intOf]; omega
            · have HF : Hid (true = (xs.take (m + 1)).contains (n : Int)) := Lib.hid (by rw [HNX.out, ← HT.out]; rfl)
              clear HNX
              go_wp2_with fail
              go_quiet (fail)
              go_wp2_with fail
              go_roundw
              case rel => exact ⟨m + 1, by go_num, by omega, true, rfl, HF, below_drewN7 hbi _⟩
              case measure => simp [intOf]; omega
          · obtain rfl : m = k := by omega
            have g3 := HKC.out wr hbi
            have g4 := HCU.out wr hbi
            have HIW2 := Lib.hid (HIS.out.below hbi)
            clear hb
            cases give
            · cases bu
              · cases t
                · have HF := Lib.hid (HS2.out (by rw [HCI2.out, ← HT.out]; rfl))
                  clear HH HS2 HCI2 HGI2 HT
                  go_wp2_with fail
                  go_quiet (fail)
                  go_wp2_with fail
                  go_quiet (fail)
                  go_wp2_with fail
                  go_roundw
                  case rel => exact ⟨m + 1, by go_num, by omega, below_drewN7 hbi _, HF⟩
                  case measure => simp [intOf]; omega
                · have HF := Lib.hid (HH.out 5 (by rw [HCI2.out, ← HT.out]; rfl) (by omega))
                  clear HH HS2 HCI2 HGI2 HT
                  go_wp2_with fail
                  go_quiet (fail)
                  go_wp2_with fail
                  go_ret
                  exact RClaimP.bad (RIs.drewN HIW2.out _) (Kept.of_below (below_drewN7 hbi _)) HF.out (by omega) rfl
              · have HF := Lib.hid (HH.out 5 (by rw [HCI2.out]; rfl) (by omega))
                clear HH HS2 HCI2 HGI2 HT
                go_wp2_with fail
                go_quiet (fail)
                go_wp2_with fail
                go_ret
                exact RClaimP.bad (RIs.drewN HIW2.out _) (Kept.of_below (below_drewN7 hbi _)) HF.out (by omega) rfl
            · cases bu
              · have HF := Lib.hid (HH.out 6 (by rw [HGI2.out]; rfl) (by omega))
                clear HH HS2 HCI2 HGI2 HT
                go_wp2_with fail
                go_quiet (fail)
                go_wp2_with fail
                go_quiet (fail)
                go_wp2_with fail
                go_ret
                exact RClaimP.bad (RIs.drewN (RIs.drewN HIW2.out _) _) (Kept.of_below (below_drewN7 (below_drewN7 hbi _) _)) HF.out (by omega) rfl
              · have HF := Lib.hid (HS2.out (by rw [HGI2.out]; rfl))
                clear HH HS2 HCI2 HGI2 HT
                go_wp2_with fail
                go_quiet (fail)
                go_wp2_with fail
                go_quiet (fail)
                go_wp2_with fail
                go_roundw
                case rel => exact ⟨m + 1, by go_num, by omega, below_drewN7 hbi _, HF⟩
                case measure => simp [intOf]; omega
    · obtain rfl : k = xs.length := by omega
      have HF := Lib.hid (claim_ok u give xs (fun j hj => HN.out j hj hj))
      have HB : Hid (∀ j (hj : j < xs.length), 0 ≤ xs[j] ∧ xs[j] < u.length) := Lib.hid (fun j hj => claim_bound (HN.out j hj hj))
      have HM0 : Hid (markU u (!give) (xs.take 0) = u) := Lib.hid (by unfold markU; rfl)
      have HK := Lib.hid (show Kept (fun k => k = bp) w wr from Kept.of_below hb)
      clear HN hb
      go_wp2_with fail
      go_loopw [11] (fun i wi => ∃ k : Nat, i = .int .i64 k ∧ k ≤ xs.length ∧ Hid (RMkd base bp vl l (markU u (!give) (xs.take k)) w wi)) (fun i _ => xs.length - (intOf i).toNat)
      case atStart => exact ⟨0, rfl, by omega, Lib.hid (by rw [HM0.out]; exact ⟨HIW.out, HK.out⟩)⟩
      case round =>
        obtain ⟨k, rfl, hk, HM⟩ := hrel
        by_cases hlt2 : k < xs.length
        · obtain ⟨b, off, rfl, hSb⟩ := HA.out k hlt2
          have hbs := HS.out b hSb
          have hrd := HX.out.move (w' := wr) (S' := S) (R' := RInt) (fun b hb => HM.out.kept.block b (HS.out b hb).2 (HS.out b hb).1) (fun _ h => h) (fun _ _ _ h => h)
          obtain ⟨g0, g1, g2⟩ := rs_int hrd hlt2
          obtain ⟨x0, x1⟩ := HB.out k hlt2
          have HS3 := Lib.hid (markU_succ u (!give) xs k hlt2)
          generalize xs[k] = x at *
          obtain ⟨n, rfl⟩ : ∃ n : Nat, x = n := ⟨x.toNat, by omega⟩
          have hm := HM.out
          have hnl : n < l.length := by have := HL.out; omega
          have cu := hm.is.used hnl
          have zf := hm.is.blk.frozens
          generalize (markU u (!give) (List.take k xs))[n]'(by rw [markU_len]; omega) = bu at *
          clear hm hrd
          cases give
          · go_wp2_with fail
            go_region_with (fail)
            all_goals
              go_wp2_with fail
              go_roundw
              case rel =>
                refine ⟨k + 1, by go_num, by omega, Lib.hid ?_⟩
                rw [HS3.out]
                have := HM.out.set_ (i := n) (by rw [markU_len]; omega) true
                exact ⟨RIs.drewN this.is 1, this.kept.drew⟩
              case measure => simp [intOf]; omega
          · go_wp2_with fail
            go_region_with (fail)
            all_goals
              go_wp2_with fail
              go_roundw
              case rel =>
                refine ⟨k + 1, by go_num, by omega, Lib.hid ?_⟩
                rw [HS3.out]
                have := HM.out.set_ (i := n) (by rw [markU_len]; omega) false
                exact ⟨RIs.drewN this.is 1, this.kept.drew⟩
              case measure => simp [intOf]; omega
        · obtain rfl : k = xs.length := by omega
          go_wp2_with fail
          go_ret
          refine ⟨by rw [HF.out]; rfl, ?_, HM.out.kept⟩
          have := HM.out.is
          rw [List.take_length] at this
          unfold claimU
          rw [if_pos HF.out]
          exact this
end
end Go.Proofs.Yticmfflnenoplaa
