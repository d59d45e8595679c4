/- Who goes first: Relieve: its walk. No statement is proved here. -/
import Derived.Test.YticmfflnenoplacEvD
namespace Go.Proofs.Yticmfflnenoplac
open Go.RowKit Go.Deep Da Qo Ev
namespace Ev
/-- All that is used by pods. -/
def sumU (us : List Use) : List Pod → Int
  | [] => 0
  | p :: l => usedF p.name us + sumU us l
theorem sumU_snoc (us : List Use) (l : List Pod) (p : Pod) : sumU us (l ++ [p]) = sumU us l + usedF p.name us := by
  induction l with
  | nil => simp [sumU]
  | cons x l ih => simp only [List.cons_append, sumU, ih]; omega
def Low (us : List Use) : Prop := ∀ n : ByteArray, -2000000000000000 ≤ usedF n us ∧ usedF n us ≤ 2000000000000000
theorem sumU_le {us : List Use} (h : Low us) (l : List Pod) : -(2000000000000000 * (l.length : Int)) ≤ sumU us l ∧ sumU us l ≤ 2000000000000000 * (l.length : Int) := by
  induction l with
  | nil => simp [sumU]
  | cons p l ih =>
    have := h p.name
    simp only [sumU, List.length_cons]
    omega
/-- Who must go: of those in order. -/
def relF (us : List Use) (most : Int) : Int → List Row → List Row
  | _, [] => []
  | all, r :: l => if all ≤ most then [] else r :: relF us most (all - usedF r.name us) l
/-- What is used behind the first k went. -/
def leftU (us : List Use) (all : Int) : List Row → Int
  | [] => all
  | r :: l => leftU us (all - usedF r.name us) l
theorem leftU_snoc (us : List Use) (l : List Row) (r : Row) (all : Int) : leftU us all (l ++ [r]) = leftU us all l - usedF r.name us := by
  induction l generalizing all with
  | nil => rfl
  | cons x l ih => rw [List.cons_append, leftU, ih]; rfl
theorem leftU_le {us : List Use} (h : Low us) (l : List Row) (all : Int) : all - 2000000000000000 * (l.length : Int) ≤ leftU us all l ∧ leftU us all l ≤ all + 2000000000000000 * (l.length : Int) := by
  induction l generalizing all with
  | nil => simp [leftU]
  | cons r l ih =>
    have := h r.name
    have := ih (all - usedF r.name us)
    simp only [leftU, List.length_cons]
    omega
/-- The first k go. -/
def Goes (us : List Use) (most all : Int) (l : List Row) (k : Nat) : Prop := relF us most all l = l.take k ++ relF us most (leftU us all (l.take k)) (l.drop k)
theorem goes_zero (us : List Use) (most all : Int) (l : List Row) : Goes us most all l 0 := by simp [Goes, leftU]
theorem goes_succ {us : List Use} {most all : Int} {l : List Row} {k : Nat} (h : Goes us most all l k) (hk : k < l.length) (hm : ¬ leftU us all (l.take k) ≤ most) : Goes us most all l (k + 1) := by
  unfold Goes at *
  rw [h, List.drop_eq_getElem_cons hk, relF, if_neg hm, List.take_succ_eq_append_getElem hk, leftU_snoc, List.append_assoc]
  rfl
theorem goes_stop {us : List Use} {most all : Int} {l : List Row} {k : Nat} (h : Goes us most all l k) (hm : leftU us all (l.take k) ≤ most) : relF us most all l = l.take k := by
  unfold Goes at h
  rw [h]
  cases l.drop k with
  | nil => simp [relF]
  | cons r m => rw [relF, if_pos hm, List.append_nil]
theorem goes_end {us : List Use} {most all : Int} {l : List Row} (h : Goes us most all l l.length) : relF us most all l = l := by
  unfold Goes at h
  rw [h, List.drop_length, List.take_length]
  simp [relF]
def relL (us : List Use) (l : List Pod) (most : Int) : List Row := relF us most (sumU us l) (rankL us l)
theorem namesV_at (l : List Row) (k : Nat) (hk : k < l.length) : (namesV l)[k]? = some (.string l[k].name) := by simp [namesV, hk]
end Ev
theorem ev_base {w : World} {b b' : Nat} {e : TypeId} {size n : Nat} {v : Value} {xs : List Value} (h : w.ownsRow b e size v n xs) (hb : b' ≤ b) : w.ownsRow b' e size v n xs := by
  refine ⟨h.1, ?_⟩
  rcases h.2 with h2 | ⟨g, cap, cur, h1, h2, h3⟩
  · exact .inl h2
  · exact .inr ⟨g, cap, cur, h1, Nat.le_trans hb h2, h3⟩
def RelP (us : List Use) (l : List Pod) (most : Int) (w : World) (e : Ending) (w' : World) : Prop :=
  ∃ A c, e = .returned (.slice A (relL us l most).length c) ∧ w'.ownsRow w.heap.size 9 1 (.slice A (relL us l most).length c) (relL us l most).length (namesV (relL us l most)) ∧ Below w.heap.size w w'
theorem RelP.of {us : List Use} {l : List Pod} {most : Int} {w w' : World} {A : Option Addr} {c k : Nat} {rs : List Row} (hr : rs = rankL us l) (hk : k ≤ rs.length) (h : relF us most (sumU us l) rs = rs.take k) (ho : w'.ownsRow w.heap.size 9 1 (.slice A k c) k (namesV (rs.take k))) (hb : Below w.heap.size w w') :
    RelP us l most w (.returned (.slice A k c)) w' := by
  have e : relL us l most = rs.take k := by unfold relL; rw [← hr, h]
  have e2 : (relL us l most).length = k := by rw [e, List.length_take]; omega
  exact ⟨A, c, by rw [e2], by rw [e2, e]; exact ho, hb⟩
section
attribute [local irreducible] usedF rowOf rowsV rankL namesV askedB askedM sortR RPod RCont sumU relF leftU Goes relL
set_option maxRecDepth 100000 in
set_option maxHeartbeats 4000000 in
theorem Relieve_any (v v2 : Value) (l : List Pod) (us : List Use) (most : Int) (B : Nat) (w : World) (hB : B ≤ w.heap.size) (h : RSlice w B 3 (RPod w B) [v] l) (h2 : RSlice w B 2 RUse [v2] us) (hf : ∀ p ∈ l, Fit us p) (hlow : Low us) (hn : l.length ≤ 1000) :
    Calls Try.prog 10 #[v, v2, .int .i64 most] w (RelP us l most w) := by
  obtain ⟨A, cap, hv, hl, hcap, hA⟩ := h.form
  obtain rfl : v = _ := by simpa using hv
  unfold maxLen at hcap
  have HA := Lib.hid hA
  have HR := Lib.hid h
  have HU := Lib.hid h2
  have HF := Lib.hid hf
  have HLo := Lib.hid hlow
  have HRA := Lib.hid (fun W (hW : Below w.heap.size w W) => Rank_any (.slice A l.length cap) v2 l us B W (by have := hW.size; omega) ((h.mono fun _ _ h => h.below (hW.mono hB)).below (hW.mono hB)) (h2.below (hW.mono hB)) hf hn)
  have HS0 : Hid (sumU us (l.take 0) = 0) := Lib.hid (by unfold sumU; rfl)
  have HSA : Hid (sumU us (l.take l.length) = sumU us l) := Lib.hid (by rw [List.take_length])
  clear h h2 hv hA hf hlow
  go_enter Try.func10, Try.ntmps10
  go_wp2_with fail
  go_loopw [7, 15] (fun s i wi => ∃ k : Nat, i = .int .i64 k ∧ k ≤ l.length ∧ s = .int .i64 (sumU us (l.take k)) ∧ Below w.heap.size w wi) (fun _ i _ => l.length - (intOf i).toNat)
  case atStart => exact ⟨0, rfl, by omega, by rw [HS0.out], Below.refl _ _⟩
  case round =>
    obtain ⟨k, rfl, hk, rfl, hb⟩ := hrel
    by_cases hlt : k < l.length
    · obtain ⟨b, off, rfl⟩ := HA.out k hlt
      obtain ⟨hblt, cs', hc1, hc2, hp0⟩ := (HR.out.below (hb.mono hB)).at_ hlt
      have HSn : Hid (sumU us (l.take (k + 1)) = sumU us (l.take k) + usedF l[k].name us) := Lib.hid (by rw [List.take_succ_eq_append_getElem hlt, sumU_snoc])
      have hs1 := sumU_le HLo.out (l.take k)
      have hs2 : (l.take k).length ≤ k := List.length_take_le _ _
      have hu1 := HLo.out l[k].name
      generalize sumU us (l.take k) = sk at *
      generalize l[k] = p at *
      obtain ⟨A8, n8, c8, hcs⟩ := rpod_open hp0
      have g0 := hc2 0 _ (by rw [hcs]; rfl)
      have g1 := hc2 1 _ (by rw [hcs]; rfl)
      have g2 := hc2 2 _ (by rw [hcs]; rfl)
      simp only [Nat.add_zero] at g0
      have hba := hb.alloc hb.size (.cells #[.string p.name, .int .i64 p.prio, .slice A8 n8 c8] 28)
      have HUS := Lib.hid (used_any v2 us p.name B (wr.alloc (.cells #[.string p.name, .int .i64 p.prio, .slice A8 n8 c8] 28)) (by have := hba.size; omega) (HU.out.below (hba.mono hB)))
      clear hc2 hcs hc1 hp0
      go_wp2_with fail
      refine HUS.out.mono ?_
      rintro e w5 ⟨rfl, hb5⟩
      have hb5' := hba.trans (hb5.mono hba.size)
      generalize usedF p.name us = un at *
      clear HUS hba hb5
      go_wp2_with fail
      go_roundw
      case rel => exact ⟨k + 1, by go_num, by omega, by rw [HSn.out], hb5'⟩
      case measure => simp [intOf]; omega
    · obtain rfl : k = l.length := by omega
      have hs1 := sumU_le HLo.out l
      rw [HSA.out]
      obtain ⟨rs, hrs⟩ : ∃ rs, rs = rankL us l := ⟨_, rfl⟩
      have hrl := rankL_len us l
      rw [← hrs] at hrl
      have HRS := Lib.hid hrs
      have HRL := Lib.hid hrl
      obtain ⟨all, hall⟩ : ∃ all, all = sumU us l := ⟨_, rfl⟩
      rw [← hall] at hs1 ⊢
      have HAL := Lib.hid hall
      have HRK := Lib.hid (HRA.out _ hb)
      have HL0 : Hid (leftU us all (rs.take 0) = all) := Lib.hid (by unfold leftU; rfl)
      clear HRA hrs hrl hall HR HA HF HSA HS0 hlt hk
      go_wp2_with fail
      refine HRK.out.mono ?_
      intro e w2 hP
      have hP2 : RankP us l _ e w2 := hP
      obtain ⟨Ar, cr, rfl, hown2, hb2⟩ := hP2
      rw [← HRS.out] at hown2
      have hb2' := hb.trans (hb2.mono hb.size)
      have HO2 := Lib.hid (ev_base hown2 hb.size)
      clear hP HRK hown2 hb2 hb
      go_wp2_with fail
      go_loopw [7, 10, 30] (fun s v10 i wi => ∃ (k : Nat) (A6 : Option Addr) (c6 : Nat), i = .int .i64 k ∧ k ≤ l.length ∧ s = .int .i64 (leftU us all (rs.take k)) ∧ v10 = .slice A6 k c6 ∧ Hid (Goes us most all rs k) ∧ Hid (wi.ownsRow w.heap.size 9 1 (.slice A6 k c6) k (namesV (rs.take k))) ∧ Hid (wi.ownsRow w.heap.size 9 1 (.slice Ar l.length cr) l.length (namesV rs)) ∧ Hid (∀ q, (Value.slice A6 k c6).ownBlock = some q → (Value.slice Ar l.length cr).ownBlock ≠ some q) ∧ Below w.heap.size w wi) (fun _ _ i _ => l.length - (intOf i).toNat)
      case atStart => exact ⟨0, none, 0, rfl, by omega, by rw [HL0.out], rfl, Lib.hid (goes_zero _ _ _ _), Lib.hid (by rw [List.take_zero, namesV_nil]; exact World.ownsRow_nil _ _ _ _), HO2, Lib.hid (fun q hq => by simp [Value.ownBlock] at hq), hb2'⟩
      case round =>
        clear HO2 hb2'
        obtain ⟨k, A6, c6, rfl, hk, rfl, rfl, HG, HO, HO2, HNE, hb⟩ := hrel
        have hlb := leftU_le HLo.out (rs.take k) all
        have hl2 : (rs.take k).length ≤ k := List.length_take_le _ _
        by_cases hlt : k < l.length
        · have hkr : k < rs.length := by have := HRL.out; omega
          obtain ⟨A', c', he, _, _, h3⟩ := own_form HO2.out
          simp only [Value.slice.injEq, true_and] at he
          obtain ⟨rfl, rfl⟩ := he
          obtain ⟨g, rfl, hg, hbg⟩ := h3 (by omega)
          have g0 := (HO2.out.cellAt k (by omega)).trans (namesV_at rs k hkr)
          by_cases hm : leftU us all (rs.take k) ≤ most
          · have HX := Lib.hid (goes_stop HG.out hm)
            have HRK := Lib.hid (show k ≤ rs.length from by omega)
            clear HG
            go_wp2_with fail
            go_ret
            exact RelP.of HRS.out HRK.out (by rw [← HAL.out]; exact HX.out) HO.out hb
          · have HG2 := Lib.hid (goes_succ HG.out hkr hm)
            have HSn : Hid (namesV (rs.take (k + 1)) = namesV (rs.take k) ++ [.string rs[k].name]) := Lib.hid (by rw [List.take_succ_eq_append_getElem hkr, namesV_snoc])
            have HLn : Hid (leftU us all (rs.take (k + 1)) = leftU us all (rs.take k) - usedF rs[k].name us) := Lib.hid (by rw [List.take_succ_eq_append_getElem hkr, leftU_snoc])
            have hu1 := HLo.out rs[k].name
            generalize leftU us all (rs.take k) = lk at *
            generalize rs[k].name = rn at *
            have HUS := Lib.hid (used_any v2 us rn B wr (by have := hb.size; omega) (HU.out.below (hb.mono hB)))
            clear HG
            go_wp2_with fail
            refine HUS.out.mono ?_
            rintro e w5 ⟨rfl, hb5⟩
            have hb5' := hb.trans (hb5.mono hb.size)
            have HO5 := Lib.hid (own_below HO.out hb5)
            have HO25 := Lib.hid (own_below HO2.out hb5)
            generalize usedF rn us = un at *
            clear HUS hb5 hb HO HO2 g0
            go_wp2_with (at_builtin; refine wpList_app _ strT rfl (.tmp 42) (.tmp 44) rfl w.heap.size (.slice A6 k c6) k (namesV (rs.take k)) rfl (by exact HO5.out.alloc _) ⟨w5.heap.size, 0, none⟩ 1 1 [.string rn] rfl rfl (news_new w5 _ _) (by simp [Value.oneCell']) (by omega) (by unfold maxLen; omega) (by omega) (by have := hb5'.size; simp; omega) ?_; intro g8 c8 w8 hown8 hgr8 hat8 hlt8)
            rw [← HSn.out] at hown8
            have HO8 := Lib.hid hown8
            have hba := hb5'.alloc hb5'.size (.cells #[.string rn] 9)
            have hb8 : Below w.heap.size w w8 := hba.grown hgr8 hba.size (fun q hq => (HO5.out.lt q hq).1)
            have HO28 := Lib.hid (own_kept (HO25.out.alloc (.cells #[.string rn] 9)) (S := fun q => (Value.slice A6 k c6).ownBlock = some q) ((Kept.refl _ _).grown hgr8 (fun q hq => .inl hq)) (fun q hq hh => HNE.out q hh hq))
            have HNE8 : Hid (∀ q, (Value.slice (some ⟨g8, 0, none⟩) (k + 1) c8).ownBlock = some q → (Value.slice (some ⟨g, 0, none⟩) l.length cr).ownBlock ≠ some q) := Lib.hid (by
              intro q hq hh
              have e1 : g8 = q := by simpa [Value.ownBlock] using hq
              have e2 : g = q := by simpa [Value.ownBlock] using hh
              subst e1
              rcases hat8 with h | h
              · exact HNE.out g8 h (by rw [e2]; rfl)
              · have := (HO25.out.lt g8 (by rw [e2]; rfl)).2
                simp at h
                omega)
            clear hown8 hgr8 hat8 hb5' hba HO5 HO25 HNE
            go_wp2_with fail
            go_roundw
            case rel => exact ⟨k + 1, _, c8, by go_num, by omega, by rw [HLn.out], rfl, HG2, HO8, HO28, HNE8, hb8⟩
            case measure => simp [intOf]; omega
        · obtain rfl : k = l.length := by omega
          have HX : Hid (relF us most all rs = rs.take l.length) := Lib.hid (by have e : l.length = rs.length := HRL.out.symm; have := HG.out; rw [e] at this ⊢; rw [goes_end this, List.take_length])
          have HRK := Lib.hid (show l.length ≤ rs.length from by have := HRL.out; omega)
          clear HG
          go_wp2_with fail
          go_ret
          exact RelP.of HRS.out HRK.out (by rw [← HAL.out]; exact HX.out) HO.out hb
end
end Go.Proofs.Yticmfflnenoplac
