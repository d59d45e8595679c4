/- Who goes first: plain laws for TopRelieve and TopRank; ostlerytop.used. No statement is proved here. -/
import Derived.Test.YticmfflnenoplacEvI
namespace Go.Proofs.Yticmfflnenoplac
open Go.RowKit Go.Deep Da Qo Ev
namespace Ev
theorem rel_take (us : List Use) (most : Int) : ∀ (l : List Row) (all : Int), relF us most all l = l.take (relF us most all l).length
  | [], all => by simp [relF]
  | r :: l, all => by
    simp only [relF]
    split
    · simp
    · have := rel_take us most l (all - usedF r.name us)
      rw [List.length_cons, List.take_succ_cons, ← this]
theorem rel_more (us : List Use) (most : Int) : ∀ (l : List Row) (all : Int) (i : Nat), i < (relF us most all l).length → ¬ leftU us all (l.take i) ≤ most
  | [], all, i, h => by simp [relF] at h
  | r :: l, all, i, h => by
    simp only [relF] at h
    split at h
    · simp at h
    · rename_i hm
      cases i with
      | zero => simpa [leftU] using hm
      | succ i =>
        rw [List.take_succ_cons, leftU]
        exact rel_more us most l _ i (by simpa using h)
theorem rel_stop (us : List Use) (most : Int) : ∀ (l : List Row) (all : Int), leftU us all (relF us most all l) ≤ most ∨ (relF us most all l).length = l.length
  | [], all => by simp [relF]
  | r :: l, all => by
    simp only [relF]
    split
    · rename_i hm
      exact .inl (by simpa [leftU] using hm)
    · rw [leftU, List.length_cons, List.length_cons]
      rcases rel_stop us most l (all - usedF r.name us) with h | h
      · exact .inl h
      · exact .inr (by omega)
theorem relF_le (us : List Use) (most : Int) : ∀ (l : List Row) (all : Int), (relF us most all l).length ≤ l.length
  | [], all => by simp [relF]
  | r :: l, all => by
    simp only [relF]
    split
    · simp
    · have := relF_le us most l (all - usedF r.name us)
      simp only [List.length_cons]
      omega
theorem fit_bare (us : List Use) (n : ByteArray) (pr : Int) (h : n.size ≤ 8) (h2 : 0 ≤ pr ∧ pr ≤ 1000) (h3 : -2000000000000000 ≤ usedF n us ∧ usedF n us ≤ 2000000000000000) : Fit us ⟨n, pr, []⟩ :=
  ⟨⟨h, by simp, fun k hk => by simp at hk⟩, h2, h3⟩
theorem low_of {us : List Use} (h : lightUses us = true) : Low us := by
  intro n
  simp only [lightUses, Bool.and_eq_true, List.all_eq_true, lightUse, decide_eq_true_eq] at h
  have := usedF_bound n 1125899906842624 (by omega) us (fun u hu => by have := (h.2 u hu).1.2; have := (h.2 u hu).2; omega)
  omega
theorem fit_of {us : List Use} {p : Pod} (hl : Low us) (h : podFault p = 0) : Fit us p := by
  refine ⟨good_of h, ?_, hl p.name⟩
  by_cases hn : nameMay p.name = true
  · by_cases hp : p.prio < 0 ∨ 1000 < p.prio
    · rw [podFault_prio hn hp] at h
      cases h
    · omega
  · rw [podFault_name (by simpa using hn)] at h
    cases h
theorem rel_some {us : List Use} {p : Pod} {most : Int} (h : most < usedF p.name us) : (relL us [p] most).length = 1 := by
  have h1 : (rankL us [p]).length = 1 := rankL_len us [p]
  have h2 := relF_le us most (rankL us [p]) (sumU us [p])
  rcases rel_stop us most (rankL us [p]) (sumU us [p]) with h3 | h3
  · show (relF us most (sumU us [p]) (rankL us [p])).length = 1
    cases hr : relF us most (sumU us [p]) (rankL us [p]) with
    | nil =>
      rw [hr] at h3
      simp only [leftU, sumU] at h3
      omega
    | cons x m =>
      rw [hr, h1] at h2
      simp only [List.length_cons] at h2 ⊢
      omega
  · exact h3.trans h1
end Ev
theorem rpod_bare (w : World) (B : Nat) (n : ByteArray) (pr : Int) (h : n.size ≤ maxLen) (h2 : -9223372036854775808 ≤ pr ∧ pr ≤ 9223372036854775807) : RPod w B [.string n, .int .i64 pr, .slice none 0 0] ⟨n, pr, []⟩ :=
  ⟨_, rfl, h, h2, none, 0, rfl, by simp, by simp [maxLen], .inl rfl⟩
theorem rnil {α : Type} (w : World) (B C : Nat) (R : List Value → α → Prop) : RSlice w B C R [.slice none 0 0] [] := ⟨none, 0, rfl, by simp, by simp [maxLen], .inl rfl⟩
theorem nodup_of {l : List Pod} (h : ∀ i (hi : i < l.length) j (hj : j < l.length), j < i → sameS l[j].name l[i].name = false) : (l.map fun p => (p.name : ByteArray)).Nodup := by
  unfold List.Nodup
  rw [List.pairwise_iff_getElem]
  intro i j hi hj hij he
  have hi' : i < l.length := by simpa using hi
  have hj' : j < l.length := by simpa using hj
  have := h j hj' i hi' hij
  simp only [List.getElem_map] at he
  rw [he, sameS_self] at this
  cases this
/-- A pod alone, in a block. -/
theorem rs_one {w : World} {g B : Nat} {n : ByteArray} {pr : Int} (k : Blk w g 28 #[.string n, .int .i64 pr, .slice none 0 0]) (hg : g < B) (h : n.size ≤ maxLen) (h2 : -9223372036854775808 ≤ pr ∧ pr ≤ 9223372036854775807) : RSlice w B 3 (RPod w B) [.slice (some ⟨g, 0, none⟩) 1 1] [⟨n, pr, []⟩] :=
  RS.blk (S := (· < B)) (R := RPod w B) (C := 3) (f := fun p : Pod => [.string p.name, .int .i64 p.prio, .slice none 0 0]) (l := [⟨n, pr, []⟩]) k rfl (by simp [maxLen]) (fun _ _ => rfl) (fun x hx => by
    obtain rfl : x = _ := List.mem_singleton.1 hx
    exact rpod_bare _ _ _ _ h h2) hg
theorem rs_use {w : World} {g B : Nat} {n : ByteArray} {b : Int} (k : Blk w g 38 #[.string n, .int .i64 b]) (hg : g < B) (h : n.size ≤ maxLen) (h2 : -9223372036854775808 ≤ b ∧ b ≤ 9223372036854775807) : RSlice w B 2 RUse [.slice (some ⟨g, 0, none⟩) 1 1] [⟨n, b⟩] :=
  RS.blk (S := (· < B)) (R := RUse) (C := 2) (f := fun u : Use => [.string u.name, .int .i64 u.bytes]) (l := [⟨n, b⟩]) k rfl (by simp [maxLen]) (fun _ _ => rfl) (fun x hx => by
    obtain rfl : x = _ := List.mem_singleton.1 hx
    exact ⟨rfl, h, h2⟩) hg
theorem RPod.mono {w : World} {B B' : Nat} {cs : List Value} {p : Pod} (h : RPod w B cs p) (hb : B ≤ B') : RPod w B' cs p := by
  obtain ⟨cv, h1, h2, h3, A, cap, e1, e2, e3, h4⟩ := h
  refine ⟨cv, h1, h2, h3, A, cap, e1, e2, e3, ?_⟩
  rcases h4 with h4 | ⟨b, off, hA, hlt, h4⟩
  · exact .inl h4
  · refine .inr ⟨b, off, hA, by omega, fun i hi => ?_⟩
    obtain ⟨cs', hl, hc, dv, q1, q2, q3, q4, q5, q6, A2, cap2, f1, f2, f3, h5⟩ := h4 i hi
    refine ⟨cs', hl, hc, dv, q1, q2, q3, q4, q5, q6, A2, cap2, f1, f2, f3, ?_⟩
    rcases h5 with h5 | ⟨b2, off2, hA2, hlt2, h5⟩
    · exact .inl h5
    · exact .inr ⟨b2, off2, hA2, by omega, h5⟩
set_option maxRecDepth 100000 in
set_option maxHeartbeats 2000000 in
theorem Tused_any (v : Value) (us : List Use) (n : ByteArray) (B : Nat) (w : World) (h : RSlice w B 2 RUse [v] us) :
    Calls Try.prog 11 #[v, .string n] w (RetIw (usedF n us) w) := by
  obtain ⟨A, cap, hv, hl, hcap, hA⟩ := h.form
  obtain rfl : v = _ := by simpa using hv
  unfold maxLen at hcap
  have HA := Lib.hid hA
  have HR := Lib.hid h
  clear h hv hA
  go_enter Try.func11, Try.ntmps11
  go_wp2_with fail
  go_loop [5] (fun i => ∃ k : Nat, i = .int .i64 k ∧ k ≤ us.length ∧ Hid (∀ j (hj : j < us.length), j < k → sameS us[j].name n = false)) (fun i => us.length - (intOf i).toNat)
  case atStart => exact ⟨0, rfl, by omega, Lib.hid (fun j hj h => by omega)⟩
  case round =>
    obtain ⟨k, rfl, hk, HN⟩ := hrel
    by_cases hlt : k < us.length
    · obtain ⟨b, off, rfl⟩ := HA.out k hlt
      obtain ⟨hblt, cs', hc1, hc2, hr1, hr2, hr3⟩ := HR.out.at_ hlt
      have g0 := hc2 0 _ (by rw [hr1]; rfl)
      have g1 := hc2 1 _ (by rw [hr1]; rfl)
      simp only [Nat.add_zero] at g0
      clear hc2 hr1 hc1
      have HH := Lib.hid (fun h => usedF_hit n us k hlt HN.out h)
      have HS : Hid (sameS us[k].name n = false → ∀ j (hj : j < us.length), j < k + 1 → sameS us[j].name n = false) := Lib.hid (by
        intro h j hj hjk
        rcases (show j < k ∨ j = k by omega) with hx | rfl
        · exact HN.out j hj hx
        · exact h)
      generalize us[k] = x at *
      obtain ⟨xn, xb⟩ := x
      dsimp only at *
      unfold sameS at HH HS
      cases hs : (xn.toList == n.toList)
      · have HX := Lib.hid (HS.out hs)
        clear HH HS
        go_wp2_with fail
        go_round
        case rel => exact ⟨k + 1, by go_num, by omega, HX⟩
        case measure => simp [intOf]; omega
      · have HX := Lib.hid (HH.out hs)
        clear HH HS
        go_wp2_with fail
        go_ret
        exact RetIw.of HX.out
    · obtain rfl : k = us.length := by omega
      have HX := Lib.hid (usedF_none n us (fun j hj => HN.out j hj hj))
      go_wp2_with fail
      go_ret
      exact RetIw.of HX.out
theorem podFault_nn9 (p : Pod) : 0 ≤ podFault p := by
  have key : ∀ (f : Nat → Int), (∀ k, 0 ≤ f k) → ∀ n, 0 ≤ firstF f n := by
    intro f hf n
    induction n with
    | zero => simp [firstF]
    | succ n ih =>
      rw [firstF]
      split
      · exact hf n
      · exact ih
  have hn : ∀ l k, 0 ≤ needFault l k := fun l k => by rcases needFault_01 l k with h | h | h <;> omega
  have hc : ∀ c, 0 ≤ contFault c := by
    intro c
    unfold contFault
    split
    · omega
    · split
      · omega
      · split
        · omega
        · exact key _ (hn _) _
  have ha : ∀ l k, 0 ≤ atFault l k := by
    intro l k
    unfold atFault
    split
    · omega
    · split
      · omega
      · split
        · omega
        · exact hc _
  unfold podFault
  split
  · omega
  · split
    · omega
    · split
      · omega
      · exact key _ (ha _) _
end Go.Proofs.Yticmfflnenoplac
