/- EvictSays: its walk. No statement is proved here. -/
import Derived.Test.YticmfflnenoplaaEvJ
namespace Go.Proofs.Yticmfflnenoplaa
open Go.RowKit Go.Deep Da Qo Ev
namespace Ev
def pa : Pod := ⟨⟨#[97]⟩, 1, []⟩
def pb : Pod := ⟨⟨#[98]⟩, 0, []⟩
theorem fit_bare (us : List Use) (n : ByteArray) (pr : Int) (h : n.size ≤ 8) (h2 : 0 ≤ pr ∧ pr ≤ 1000) (h3 : -2000000000000000 ≤ usedF n us ∧ usedF n us ≤ 2000000000000000) : Fit us ⟨n, pr, []⟩ :=
  ⟨⟨h, by simp, fun k hk => by simp at hk⟩, h2, h3⟩
theorem fit_a : Fit [] pa := fit_bare [] _ 1 (by decide) (by omega) (by simp [usedF])
theorem fit_b : Fit [] pb := fit_bare [] _ 0 (by decide) (by omega) (by simp [usedF])
theorem rank_ab : nm (rankL [] [pa, pb]) = [⟨#[98]⟩, ⟨#[97]⟩] := by
  have h1 : Lt (rowOf [] pb) (rowOf [] pa) := by
    rw [fit_a.row, fit_b.row]
    simp [Lt, usedF, pa, pb, askedB, sumF]
  have h2 := ltB_iff.2 h1
  have e : sortR [rowOf [] pa, rowOf [] pb] = [rowOf [] pb, rowOf [] pa] := by
    simp [sortR, List.mergeSort, List.MergeSort.Internal.splitInTwo, h2]
  show nm (sortR [rowOf [] pa, rowOf [] pb]) = _
  rw [e]
  simp only [nm, List.map_cons, List.map_nil, fit_a.name, fit_b.name]
  rfl
theorem relF_le (us : List Use) (most : Int) : ∀ (l : List Row) (all : Int), (relF us most all l).length ≤ l.length
  | [], all => by simp [relF]
  | r :: l, all => by
    simp only [relF]
    split
    · simp
    · have := relF_le us most l (all - usedF r.name us)
      simp only [List.length_cons]
      omega
theorem rel_le (us : List Use) (l : List Pod) (most : Int) : (relL us l most).length ≤ (rankL us l).length := relF_le us most _ _
theorem low_of {us : List Use} (h : lightUses us = true) : Low us := by
  intro n
  simp only [lightUses, Bool.and_eq_true, List.all_eq_true, lightUse, decide_eq_true_eq] at h
  have := usedF_bound n 1125899906842624 (by omega) us (fun u hu => by have := (h.2 u hu).1.2; have := (h.2 u hu).2; omega)
  omega
theorem fit_of {us : List Use} {p : Pod} (hl : Low us) (h : podFault p = 0) : Fit us p := by
  refine ⟨good_of h, ?_, hl p.name⟩
  by_cases hn : nameMay p.name = true
  · by_cases hp : p.prio < 0 ∨ 1000 < p.prio
    · rw [podFault_prio hn hp] at h
      cases h
    · omega
  · rw [podFault_name (by simpa using hn)] at h
    cases h
end Ev
theorem rpod_bare (w : World) (B : Nat) (n : ByteArray) (pr : Int) (h : n.size ≤ maxLen) (h2 : -9223372036854775808 ≤ pr ∧ pr ≤ 9223372036854775807) : RPod w B [.string n, .int .i64 pr, .slice none 0 0] ⟨n, pr, []⟩ :=
  ⟨_, rfl, h, h2, none, 0, rfl, by simp, by simp [maxLen], .inl rfl⟩
theorem rnil {α : Type} (w : World) (B C : Nat) (R : List Value → α → Prop) : RSlice w B C R [.slice none 0 0] [] := ⟨none, 0, rfl, by simp, by simp [maxLen], .inl rfl⟩
theorem rnil_of (l : List Pod) (n : Nat) (h : l.length = n) : n = l.length := h.symm
section
attribute [local irreducible] rankL namesV relL podFault RPod RCont lightPods lightUses
set_option maxRecDepth 100000 in
set_option maxHeartbeats 4000000 in
theorem goes_any (w : World) : Calls Try.prog 81 #[] w (RetBB true w) := by
  have HRK := Lib.hid rank_ab
  go_enter Try.func81, Try.ntmps81
  go_wp2_with fail
  have hb0 : Below w.heap.size w (w.alloc (.cells #[.string ⟨#[97]⟩, .int .i64 1, .slice none 0 0, .string ⟨#[98]⟩, .int .i64 0, .slice none 0 0] 33)) := (Below.refl _ _).alloc (Nat.le_refl _) _
  have kb := Blk.new w 33 #[.string ⟨#[97]⟩, .int .i64 1, .slice none 0 0, .string ⟨#[98]⟩, .int .i64 0, .slice none 0 0]
  generalize hw1 : w.alloc (.cells #[.string ⟨#[97]⟩, .int .i64 1, .slice none 0 0, .string ⟨#[98]⟩, .int .i64 0, .slice none 0 0] 33) = w1 at *
  have hlt : w.heap.size < w1.heap.size := kb.lt
  have hrs : RSlice w1 w1.heap.size 3 (RPod w1 w1.heap.size) [.slice (some ⟨w.heap.size, 0, none⟩) 2 2] [pa, pb] :=
    RS.blk (S := (· < w1.heap.size)) (R := RPod w1 w1.heap.size) (C := 3) (f := fun p : Pod => [.string p.name, .int .i64 p.prio, .slice none 0 0]) (l := [pa, pb]) kb rfl (by simp [maxLen]) (fun _ _ => rfl) (fun x hx => by
      rcases List.mem_cons.1 hx with rfl | hx
      · exact rpod_bare _ _ _ _ (by decide) (by decide)
      · obtain rfl : x = _ := List.mem_singleton.1 hx
        exact rpod_bare _ _ _ _ (by decide) (by decide)) hlt
  have HRA := Lib.hid (Rank_any _ (.slice none 0 0) [pa, pb] [] w1.heap.size w1 (Nat.le_refl _) hrs (rnil _ _ _ _) (fun p hp => by
    rcases List.mem_cons.1 hp with rfl | hp
    · exact fit_a
    · obtain rfl : p = _ := List.mem_singleton.1 hp
      exact fit_b) (by simp))
  have HB0 := Lib.hid hb0
  clear kb hrs hw1 hb0
  refine HRA.out.mono ?_
  intro e w2 hP
  have hP2 : RankP [] [pa, pb] w1 e w2 := hP
  obtain ⟨A, c, rfl, hown, hb2⟩ := hP2
  have hb02 := HB0.out.trans (hb2.mono HB0.out.size)
  have kb := Blk.new w2 9 #[.string ⟨#[98]⟩, .string ⟨#[97]⟩]
  have hb3 : Below w2.heap.size w2 (w2.alloc (.cells #[.string ⟨#[98]⟩, .string ⟨#[97]⟩] 9)) := (Below.refl _ _).alloc (Nat.le_refl _) _
  have hl2 : ([pa, pb] : List Pod).length = (rankL [] [pa, pb]).length := (rankL_len _ _).symm
  have h1 := rs_names (own_below hown hb3) hl2
  rw [HRK.out] at h1
  have h2 : RS (w2.alloc (.cells #[.string ⟨#[98]⟩, .string ⟨#[97]⟩] 9)) (fun b => b = w2.heap.size) 1 RStr_ [.slice (some ⟨w2.heap.size, 0, none⟩) 2 2] [⟨#[98]⟩, ⟨#[97]⟩] :=
    RS.blk (S := fun b => b = w2.heap.size) (R := RStr_) (C := 1) (f := fun x : ByteArray => [.string x]) (l := [(⟨#[98]⟩ : ByteArray), ⟨#[97]⟩]) kb rfl (by simp [maxLen]) (fun _ _ => rfl) (fun x hx => ⟨rfl, by
      rcases List.mem_cons.1 hx with rfl | hx
      · decide
      · obtain rfl : x = _ := List.mem_singleton.1 hx
        decide⟩) rfl
  have HST := Lib.hid (SameT_any _ _ _ _ _ _ (by simp) h1 h2 (fun b hb => ((own_below hown hb3).lt b hb).2) (fun b hb => by rw [hb]; simp))
  have HB3 := Lib.hid (hb02.trans (hb3.mono hb02.size))
  clear kb h1 h2 hown hP HRA hb2 hb02 hb3 HB0 hl2
  go_wp2_with fail
  refine HST.out.mono ?_
  rintro e w4 ⟨rfl, hb4⟩
  go_wp2_with fail
  go_ret
  exact ⟨rfl, HB3.out.trans (hb4.mono HB3.out.size)⟩
set_option maxRecDepth 100000 in
set_option maxHeartbeats 4000000 in
theorem evictSays_any (v v2 : Value) (l : List Pod) (us : List Use) (most : Int) (w : World) (h : RSlice w w.heap.size 3 (RPod w w.heap.size) [v] l) (h2 : RSlice w w.heap.size 2 RUse [v2] us) :
    Calls Try.prog 9 #[v, v2, .int .i64 most] w (RetBB true w) := by
  have HLP := Lib.hid (fun W (hW : Below w.heap.size w W) => lightPods_any v l W w.heap.size hW.size ((h.mono fun _ _ h => h.below hW).below hW))
  have HLU := Lib.hid (fun W (hW : Below w.heap.size w W) => lightUses_any v2 us W w.heap.size (h2.below hW))
  have HAP := Lib.hid (fun W (hW : Below w.heap.size w W) => apart_any v l w.heap.size W hW.size ((h.mono fun _ _ h => h.below hW).below hW))
  cases hlp : lightPods l
  · rw [hlp] at HLP
    go_enter Try.func9, Try.ntmps9
    go_wp2_with fail
    refine (goes_any _).mono ?_
    rintro e w1 ⟨rfl, hb1⟩
    go_wp2_with fail
    refine (HLP.out _ hb1).mono ?_
    rintro e w2 ⟨rfl, hb2⟩
    go_wp2_with fail
    go_ret
    exact ⟨rfl, hb1.trans (hb2.mono hb1.size)⟩
  cases hlu : lightUses us
  · rw [hlp] at HLP
    rw [hlu] at HLU
    go_enter Try.func9, Try.ntmps9
    go_wp2_with fail
    refine (goes_any _).mono ?_
    rintro e w1 ⟨rfl, hb1⟩
    go_wp2_with fail
    refine (HLP.out _ hb1).mono ?_
    rintro e w2 ⟨rfl, hb2⟩
    have hb2' := hb1.trans (hb2.mono hb1.size)
    go_wp2_with fail
    refine (HLU.out _ hb2').mono ?_
    rintro e w3 ⟨rfl, rfl⟩
    go_wp2_with fail
    go_ret
    exact ⟨rfl, hb2'⟩
  rw [hlp] at HLP
  rw [hlu] at HLU
  have hlow := low_of hlu
  have hl16 : l.length ≤ 16 := by
    unfold lightPods at hlp
    simp only [Bool.and_eq_true, decide_eq_true_eq] at hlp
    exact hlp.1
  have HLow := Lib.hid hlow
  have HRA := Lib.hid (fun (ha : Apart us l) W (hW : Below w.heap.size w W) => Rank_any v v2 l us w.heap.size W hW.size ((h.mono fun _ _ h => h.below hW).below hW) (h2.below hW) ha.fit (by omega))
  have HRR := Lib.hid (fun (ha : Apart us l) W (hW : Below w.heap.size w W) => RRank_any v v2 l us w.heap.size W hW.size ((h.mono fun _ _ h => h.below hW).below hW) (h2.below hW) ha (by omega))
  have HRE := Lib.hid (fun (ha : Apart us l) W (hW : Below w.heap.size w W) => Relieve_any v v2 l us most w.heap.size W hW.size ((h.mono fun _ _ h => h.below hW).below hW) (h2.below hW) ha.fit hlow (by omega))
  have HRF := Lib.hid (fun (ha : Apart us l) W (hW : Below w.heap.size w W) => RRelieve_any v v2 l us most w.heap.size W hW.size ((h.mono fun _ _ h => h.below hW).below hW) (h2.below hW) ha hlow (by omega))
  have HRL := Lib.hid (rankL_len us l)
  clear hlp hlu hlow h h2
  go_enter Try.func9, Try.ntmps9
  go_wp2_with fail
  refine (goes_any _).mono ?_
  rintro e w1 ⟨rfl, hb1⟩
  go_wp2_with fail
  refine (HLP.out _ hb1).mono ?_
  rintro e w2 ⟨rfl, hb2⟩
  have hb2' := hb1.trans (hb2.mono hb1.size)
  clear hb1 hb2
  go_wp2_with fail
  refine (HLU.out _ hb2').mono ?_
  rintro e w3 ⟨rfl, rfl⟩
  go_wp2_with fail
  refine (HAP.out _ hb2').mono ?_
  intro e w4 hP
  have hP2 : ApP l w2 e w4 := hP
  obtain ⟨b, rfl, hap, hb4⟩ := hP2
  have hb4' := hb2'.trans (hb4.mono hb2'.size)
  clear hP hb4 hb2' HAP HLP HLU
  cases b
  · clear hap
    go_wp2_with fail
    go_ret
    exact ⟨rfl, hb4'⟩
  · have hA : Apart us l := ⟨fun p hp => fit_of HLow.out ((hap rfl).1 p hp), (hap rfl).2⟩
    have HAp := Lib.hid hA
    clear hap hA
    go_wp2_with fail
    refine (HRA.out HAp.out _ hb4').mono ?_
    intro e w5 hP
    have hP2 : RankP us l w4 e w5 := hP
    obtain ⟨A5, c5, rfl, hown5, hb5⟩ := hP2
    have hb5' := hb4'.trans (hb5.mono hb4'.size)
    have HO5 := Lib.hid hown5
    clear hP hown5 hb5 hb4'
    go_wp2_with fail
    refine (HRR.out HAp.out _ hb5').mono ?_
    intro e w6 hP
    have hP2 : RankP us l w5 e w6 := hP
    obtain ⟨A6, c6, rfl, hown6, hb6⟩ := hP2
    have hb6' := hb5'.trans (hb6.mono hb5'.size)
    have ho5 := own_below HO5.out hb6
    have HST := Lib.hid (SameT_any _ _ _ _ _ _ (by rw [nm_len, HRL.out]; omega) (rs_names ho5 HRL.out.symm) (rs_names hown6 HRL.out.symm) (fun b hb => (ho5.lt b hb).2) (fun b hb => (hown6.lt b hb).2))
    clear hP hown6 hb6 hb5' ho5 HO5
    go_wp2_with fail
    refine HST.out.mono ?_
    rintro e w7 ⟨rfl, hb7⟩
    have hb7' := hb6'.trans (hb7.mono hb6'.size)
    clear hb7 hb6' HST
    go_wp2_with fail
    refine (HRE.out HAp.out _ hb7').mono ?_
    intro e w8 hP
    have hP2 : RelP us l most w7 e w8 := hP
    obtain ⟨A8, c8, rfl, hown8, hb8⟩ := hP2
    have hb8' := hb7'.trans (hb8.mono hb7'.size)
    have HO8 := Lib.hid hown8
    clear hP hown8 hb8 hb7'
    go_wp2_with fail
    refine (HRF.out HAp.out _ hb8').mono ?_
    intro e w9 hP
    have hP2 : RRelP us l most w8 e w9 := hP
    obtain ⟨A9, c9, n9, rfl, hrs9, hb9⟩ := hP2
    have hb9' := hb8'.trans (hb9.mono hb8'.size)
    have ho8 := own_below HO8.out hb9
    have HST := Lib.hid (SameT_any _ _ _ _ _ _ (by rw [nm_len]; have := rel_le us l most; rw [HRL.out] at this; omega) (rs_names ho8 rfl) hrs9 (fun b hb => (ho8.lt b hb).2) (fun b hb => hb.2))
    clear hP hrs9 hb9 hb8' ho8 HO8
    go_wp2_with fail
    refine HST.out.mono ?_
    rintro e w10 ⟨rfl, hb10⟩
    go_wp2_with fail
    go_ret
    exact ⟨rfl, hb9'.trans (hb10.mono hb9'.size)⟩
end
end Go.Proofs.Yticmfflnenoplaa
