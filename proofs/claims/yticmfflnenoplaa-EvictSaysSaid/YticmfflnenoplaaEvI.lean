/- Who goes first: the reference's Relieve, the law's own functions: their walks. No statement is proved here. -/
import Derived.Test.YticmfflnenoplaaEvH
import Derived.Test.YticmfflnenoplaaLiP
namespace Go.Proofs.Yticmfflnenoplaa
open Go.RowKit Go.Deep Da Qo Ev
namespace Ev
def nm (l : List Row) : List ByteArray := l.map Row.name
theorem nm_len (l : List Row) : (nm l).length = l.length := by simp [nm]
theorem namesV_flat (l : List Row) : namesV l = (nm l).flatMap fun x => [.string x] := by
  unfold namesV nm
  induction l with
  | nil => rfl
  | cons x l ih => rw [List.map_cons, ih]; simp
end Ev
def RStr_ (cs : List Value) (s : ByteArray) : Prop := cs = [.string s] ∧ s.size ≤ maxLen
theorem rs_names {w : World} {base n : Nat} {v : Value} {l : List Row} (h : w.ownsRow base 9 1 v n (namesV l)) (hn : n = l.length) : RS w (fun b => v.ownBlock = some b) 1 RStr_ [v] (nm l) :=
  RS.own (f := fun x => [.string x]) (by
    rw [nm_len, ← namesV_flat, ← hn]
    exact h) (fun _ _ => rfl) (fun x hx => ⟨rfl, by
      obtain ⟨r, _, rfl⟩ := List.mem_map.1 hx
      have := r.h.2.2
      unfold maxLen
      omega⟩) (fun g hg => hg)
theorem RS.take {α : Type} {w : World} {S : Nat → Prop} {C : Nat} {R : List Value → α → Prop} {A : Option Addr} {n c : Nat} {l : List α} (h : RS w S C R [.slice A n c] l) (k : Nat) (hk : k ≤ l.length) : RS w S C R [.slice A k c] (l.take k) := by
  obtain ⟨A', cap, h1, h2, h3, h4⟩ := h
  simp only [List.cons.injEq, Value.slice.injEq, and_true] at h1
  obtain ⟨rfl, rfl, rfl⟩ := h1
  have hl : (l.take k).length = k := by rw [List.length_take]; omega
  refine ⟨A, c, by rw [hl], by omega, h3, ?_⟩
  rcases h4 with h4 | ⟨b, off, hA, hb, h4⟩
  · exact .inl (by omega)
  · refine .inr ⟨b, off, hA, hb, fun i hi => ?_⟩
    obtain ⟨cs', q1, q2, q3⟩ := h4 i (by omega)
    exact ⟨cs', q1, q2, by rw [List.getElem_take]; exact q3⟩
set_option maxRecDepth 100000 in
set_option maxHeartbeats 2000000 in
theorem SameT_any (v v2 : Value) (l : List ByteArray) (S S2 : Nat → Prop) (w : World) (hl : l.length ≤ 1000000) (h1 : RS w S 1 RStr_ [v] l) (h2 : RS w S2 1 RStr_ [v2] l) (hS : ∀ b, S b → b < w.heap.size) (hS2 : ∀ b, S2 b → b < w.heap.size) :
    Calls Try.prog 84 #[v, v2] w (RetBB true w) := by
  obtain ⟨A, c, hv, _, _, hA⟩ := h1.form
  obtain rfl : v = _ := by simpa using hv
  obtain ⟨A2, c2, hv2, _, _, hA2⟩ := h2.form
  obtain rfl : v2 = _ := by simpa using hv2
  have H1 := Lib.hid h1
  have H2 := Lib.hid h2
  have HA := Lib.hid hA
  have HA2 := Lib.hid hA2
  have HS := Lib.hid hS
  have HS2 := Lib.hid hS2
  clear h1 h2 hA hA2 hv hv2 hS hS2
  go_enter Try.func84, Try.ntmps84
  go_upto_region 4 with fail
  go_loopw [5] (fun i wi => ∃ k : Nat, i = .int .i64 k ∧ k ≤ l.length ∧ Below w.heap.size w wi) (fun i _ => l.length - (intOf i).toNat)
  case atStart => exact ⟨0, rfl, by omega, Below.refl _ _⟩
  case round =>
    obtain ⟨k, rfl, hk, hbel⟩ := hrel
    by_cases hlt : k < l.length
    · obtain ⟨b, off, rfl, hb⟩ := HA.out k hlt
      obtain ⟨b2, off2, rfl, hb2⟩ := HA2.out k hlt
      obtain ⟨_, cs1, _, q1, e1, _⟩ := (H1.out.move (w' := wr) (S' := S) (R' := RStr_) (fun b hb => hbel.block b (HS.out b hb)) (fun _ h => h) (fun _ _ _ h => h)).at_ hlt
      obtain ⟨_, cs2, _, q2, e2, _⟩ := (H2.out.move (w' := wr) (S' := S2) (R' := RStr_) (fun b hb => hbel.block b (HS2.out b hb)) (fun _ h => h) (fun _ _ _ h => h)).at_ hlt
      have r0 := q1 0 _ (by rw [e1]; rfl)
      have s0 := q2 0 _ (by rw [e2]; rfl)
      rw [Nat.mul_one, Nat.add_zero] at r0 s0
      clear q1 q2 e1 e2
      generalize l[k] = g at *
      go_upto_region 6 with fail
      go_quiet (fail)
      go_wp2_with fail
      go_roundw
      case rel => exact ⟨k + 1, by go_num, by omega, below_drewN3 hbel _⟩
      case measure => simp [intOf]; omega
    · obtain rfl : k = l.length := by omega
      go_wp2_with fail
      go_ret
      exact ⟨rfl, hbel⟩
def RRelP (us : List Use) (l : List Pod) (most : Int) (w : World) (e : Ending) (w' : World) : Prop :=
  ∃ A c n, e = .returned (.slice A n c) ∧ RS w' (fun b => w.heap.size ≤ b ∧ b < w'.heap.size) 1 RStr_ [.slice A n c] (nm (relL us l most)) ∧ Below w.heap.size w w'
theorem RRelP.of {us : List Use} {l : List Pod} {most : Int} {w w' : World} {A : Option Addr} {c k n : Nat} {rs : List Row} (hr : rs = rankL us l) (hk : k ≤ rs.length) (h : relF us most (sumU us l) rs = rs.take k) {base : Nat} (hbw : w.heap.size ≤ base) (hn : n = rs.length) (ho : w'.ownsRow base 9 1 (.slice A n c) n (namesV rs)) (hb : Below w.heap.size w w') :
    RRelP us l most w (.returned (.slice A k c)) w' := by
  have e : relL us l most = rs.take k := by unfold relL; rw [← hr, h]
  refine ⟨A, c, k, rfl, ?_, hb⟩
  have h1 := (rs_names ho hn).take k (by rw [nm_len]; exact hk)
  have e2 : (nm rs).take k = nm (relL us l most) := by rw [e]; simp [nm, List.map_take]
  rw [e2] at h1
  exact h1.move (fun _ _ => rfl) (fun b hb => ⟨by have := (ho.lt b hb).1; omega, (ho.lt b hb).2⟩) (fun _ _ _ h => h)
section
attribute [local irreducible] usedF rowOf rowsV rankL namesV askedB askedM sortR RPod RCont sumU relF leftU Goes relL
set_option maxRecDepth 100000 in
set_option maxHeartbeats 4000000 in
theorem RRelieve_any (v v2 : Value) (l : List Pod) (us : List Use) (most : Int) (B : Nat) (w : World) (hB : B ≤ w.heap.size) (h : RSlice w B 3 (RPod w B) [v] l) (h2 : RSlice w B 2 RUse [v2] us) (ha : Apart us l) (hlow : Low us) (hn : l.length ≤ 1000) :
    Calls Try.prog 88 #[v, v2, .int .i64 most] w (RRelP us l most w) := by
  obtain ⟨A, cap, hv, hl, hcap, hA⟩ := h.form
  obtain rfl : v = _ := by simpa using hv
  unfold maxLen at hcap
  have HA := Lib.hid hA
  have HR := Lib.hid h
  have HU := Lib.hid h2
  have HLo := Lib.hid hlow
  have HRA := Lib.hid (fun W (hW : Below w.heap.size w W) => RRank_any (.slice A l.length cap) v2 l us B W (by have := hW.size; omega) ((h.mono fun _ _ h => h.below (hW.mono hB)).below (hW.mono hB)) (h2.below (hW.mono hB)) ha hn)
  have HS0 : Hid (sumU us (l.take 0) = 0) := Lib.hid (by unfold sumU; rfl)
  have HSA : Hid (sumU us (l.take l.length) = sumU us l) := Lib.hid (by rw [List.take_length])
  clear h h2 hv hA ha hlow
  go_enter Try.func88, Try.ntmps88
  go_wp2_with fail
  go_loop [7, 8] (fun s i => ∃ k : Nat, i = .int .i64 k ∧ k ≤ l.length ∧ s = .int .i64 (sumU us (l.take k))) (fun _ i => l.length - (intOf i).toNat)
  case atStart => exact ⟨0, rfl, by omega, by rw [HS0.out]⟩
  case round =>
    obtain ⟨k, rfl, hk, rfl⟩ := hrel
    by_cases hlt : k < l.length
    · obtain ⟨b, off, rfl⟩ := HA.out k hlt
      obtain ⟨hblt, cs', hc1, hc2, hp0⟩ := HR.out.at_ hlt
      have HSn : Hid (sumU us (l.take (k + 1)) = sumU us (l.take k) + usedF l[k].name us) := Lib.hid (by rw [List.take_succ_eq_append_getElem hlt, sumU_snoc])
      have hs1 := sumU_le HLo.out (l.take k)
      have hs2 : (l.take k).length ≤ k := List.length_take_le _ _
      have hu1 := HLo.out l[k].name
      generalize sumU us (l.take k) = sk at *
      generalize l[k] = p at *
      obtain ⟨A8, n8, c8, hcs⟩ := rpod_open hp0
      have g0 := hc2 0 _ (by rw [hcs]; rfl)
      simp only [Nat.add_zero] at g0
      have HUS := Lib.hid (Rused_any v2 us p.name B w HU.out)
      clear hc2 hcs hc1 hp0
      go_wp2_with fail
      refine HUS.out.mono ?_
      rintro e w5 ⟨rfl, rfl⟩
      generalize usedF p.name us = un at *
      clear HUS
      go_wp2_with fail
      go_round
      case rel => exact ⟨k + 1, by go_num, by omega, by rw [HSn.out]⟩
      case measure => simp [intOf]; omega
    · obtain rfl : k = l.length := by omega
      have hs1 := sumU_le HLo.out l
      rw [HSA.out]
      obtain ⟨rs, hrs⟩ : ∃ rs, rs = rankL us l := ⟨_, rfl⟩
      have hrl := rankL_len us l
      rw [← hrs] at hrl
      have HRS := Lib.hid hrs
      have HRL := Lib.hid hrl
      obtain ⟨all, hall⟩ : ∃ all, all = sumU us l := ⟨_, rfl⟩
      rw [← hall] at hs1 ⊢
      have HAL := Lib.hid hall
      have HRK := Lib.hid (HRA.out _ (Below.refl _ _))
      have HL0 : Hid (leftU us all (rs.take 0) = all) := Lib.hid (by unfold leftU; rfl)
      clear HRA hrs hrl hall HR HA HSA HS0 hlt hk
      go_wp2_with fail
      refine HRK.out.mono ?_
      intro e w2 hP
      have hP2 : RankP us l _ e w2 := hP
      obtain ⟨Ar, cr, rfl, hown2, hb2⟩ := hP2
      rw [← HRS.out] at hown2
      have hcr : l.length ≤ cr := by obtain ⟨_, _, e, h1, _⟩ := own_form hown2; simp at e; omega
      have HO2 := Lib.hid hown2
      have hU2 := HU.out.below (hb2.mono hB)
      have HU2 := Lib.hid hU2
      clear hP HRK hown2 hU2
      go_wp2_with fail
      go_loop [7, 10] (fun s i => ∃ k : Nat, i = .int .i64 k ∧ k ≤ l.length ∧ s = .int .i64 (leftU us all (rs.take k)) ∧ Hid (Goes us most all rs k)) (fun _ i => l.length - (intOf i).toNat)
      case atStart => exact ⟨0, rfl, by omega, by rw [HL0.out], Lib.hid (goes_zero _ _ _ _)⟩
      case round =>
        obtain ⟨k, rfl, hk, rfl, HG⟩ := hrel
        have hlb := leftU_le HLo.out (rs.take k) all
        have hl2 : (rs.take k).length ≤ k := List.length_take_le _ _
        by_cases hlt : k < l.length
        · have hkr : k < rs.length := by have := HRL.out; omega
          obtain ⟨A', c', he, _, _, h3⟩ := own_form HO2.out
          simp only [Value.slice.injEq, true_and] at he
          obtain ⟨rfl, rfl⟩ := he
          obtain ⟨g, rfl, hg, hbg⟩ := h3 (by omega)
          have g0 := (HO2.out.cellAt k (by omega)).trans (namesV_at rs k hkr)
          by_cases hm : leftU us all (rs.take k) ≤ most
          · have HX := Lib.hid (goes_stop HG.out hm)
            have HRK := Lib.hid (show k ≤ rs.length from by omega)
            clear HG
            go_wp2_with fail
            go_ret
            exact RRelP.of HRS.out HRK.out (by rw [← HAL.out]; exact HX.out) (Nat.le_refl _) HRL.out.symm HO2.out hb2
          · have HG2 := Lib.hid (goes_succ HG.out hkr hm)
            have HLn : Hid (leftU us all (rs.take (k + 1)) = leftU us all (rs.take k) - usedF rs[k].name us) := Lib.hid (by rw [List.take_succ_eq_append_getElem hkr, leftU_snoc])
            have hu1 := HLo.out rs[k].name
            generalize leftU us all (rs.take k) = lk at *
            generalize rs[k].name = rn at *
            have HUS := Lib.hid (Rused_any v2 us rn B w2 HU2.out)
            clear HG
            go_wp2_with fail
            refine HUS.out.mono ?_
            rintro e w5 ⟨rfl, rfl⟩
            generalize usedF rn us = un at *
            clear HUS g0
            go_wp2_with fail
            go_round
            case rel => exact ⟨k + 1, by go_num, by omega, by rw [HLn.out], HG2⟩
            case measure => simp [intOf]; omega
        · obtain rfl : k = l.length := by omega
          have HX : Hid (relF us most all rs = rs.take l.length) := Lib.hid (by have e : l.length = rs.length := HRL.out.symm; have := HG.out; rw [e] at this ⊢; rw [goes_end this, List.take_length])
          have HRK := Lib.hid (show l.length ≤ rs.length from by have := HRL.out; omega)
          clear HG
          go_wp2_with fail
          go_ret
          exact RRelP.of HRS.out HRK.out (by rw [← HAL.out]; exact HX.out) (Nat.le_refl _) HRL.out.symm HO2.out hb2
end
end Go.Proofs.Yticmfflnenoplaa
