/- Who goes first: used, comparisons: their walks. No statement is proved here. -/
import Derived.Test.YticmfflnenoplacEvA
import Derived.Test.YticmfflnenoplacQosC
namespace Go.Proofs.Yticmfflnenoplac
open Go.RowKit Go.Deep Da Qo Ev
set_option maxRecDepth 100000 in
set_option maxHeartbeats 2000000 in
theorem used_any (v : Value) (us : List Use) (n : ByteArray) (B : Nat) (w : World) (hB : B ≤ w.heap.size) (h : RSlice w B 2 RUse [v] us) :
    Calls Try.prog 12 #[v, .string n] w (RetIB (usedF n us) w) := by
  obtain ⟨A, cap, hv, hl, hcap, hA⟩ := h.form
  obtain rfl : v = _ := by simpa using hv
  unfold maxLen at hcap
  have HA := Lib.hid hA
  have HR := Lib.hid h
  clear h hv hA
  go_enter Try.func12, Try.ntmps12
  go_wp2_with fail
  go_loopw [9] (fun i wi => ∃ k : Nat, i = .int .i64 k ∧ k ≤ us.length ∧ Below w.heap.size w wi ∧ Hid (∀ j (hj : j < us.length), j < k → sameS us[j].name n = false)) (fun i _ => us.length - (intOf i).toNat)
  case atStart => exact ⟨0, rfl, by omega, Below.refl _ _, Lib.hid (fun j hj h => by omega)⟩
  case round =>
    obtain ⟨k, rfl, hk, hb, HN⟩ := hrel
    by_cases hlt : k < us.length
    · obtain ⟨b, off, rfl⟩ := HA.out k hlt
      obtain ⟨hblt, cs', hc1, hc2, hr1, hr2, hr3⟩ := (HR.out.below (hb.mono hB)).at_ hlt
      have g0 := hc2 0 _ (by rw [hr1]; rfl)
      have g1 := hc2 1 _ (by rw [hr1]; rfl)
      simp only [Nat.add_zero] at g0
      clear hc2 hr1 hc1
      have HH := Lib.hid (fun h => usedF_hit n us k hlt HN.out h)
      have HS : Hid (sameS us[k].name n = false → ∀ j (hj : j < us.length), j < k + 1 → sameS us[j].name n = false) := Lib.hid (by
        intro h j hj hjk
        rcases (show j < k ∨ j = k by omega) with hx | rfl
        · exact HN.out j hj hx
        · exact h)
      generalize us[k] = x at *
      obtain ⟨xn, xb⟩ := x
      dsimp only at *
      unfold sameS at HH HS
      have hbn := hb.alloc hb.size (.cells #[.string xn, .int .i64 xb] 38)
      cases hs : (xn.toList == n.toList)
      · have HX := Lib.hid (HS.out hs)
        clear HH HS
        go_wp2_with fail
        go_roundw
        case rel => exact ⟨k + 1, by go_num, by omega, hbn, HX⟩
        case measure => simp [intOf]; omega
      · have HX := Lib.hid (HH.out hs)
        clear HH HS
        go_wp2_with fail
        go_ret
        exact RetIB.of HX.out hbn
    · obtain rfl : k = us.length := by omega
      have HX := Lib.hid (usedF_none n us (fun j hj => HN.out j hj hj))
      go_wp2_with fail
      go_ret
      exact RetIB.of HX.out hb
def RetIw (n : Int) (w : World) (e : Ending) (w' : World) : Prop := e = .returned (.int .i64 n) ∧ w = w'
theorem RetIw.of {n x : Int} {w : World} (h : n = x) : RetIw n w (.returned (.int .i64 x)) w := ⟨by rw [h], rfl⟩
set_option maxHeartbeats 400000 in
theorem nanI_any (x : Int) (w : World) : Calls Try.prog 24 #[.int .i64 x] w (RetB false w) := by
  go_enter Try.func24, Try.ntmps24
  go_wp2_with fail
  go_ret
  exact ⟨by simp, rfl⟩
set_option maxHeartbeats 400000 in
theorem nanS_any (x : ByteArray) (w : World) : Calls Try.prog 25 #[.string x] w (RetB false w) := by
  go_enter Try.func25, Try.ntmps25
  go_wp2_with fail
  go_ret
  exact ⟨by simp, rfl⟩
set_option maxHeartbeats 1000000 in
theorem cmpI_any (x y : Int) (w : World) : Calls Try.prog 17 #[.int .i64 x, .int .i64 y] w (RetIw (cmpI x y) w) := by
  have H1 : Hid (x < y → cmpI x y = -1) := Lib.hid (fun h => by simp [cmpI, h])
  have H2 : Hid (y < x → cmpI x y = 1) := Lib.hid (fun h => by unfold cmpI; rw [if_neg (by omega), if_pos h])
  have H3 : Hid (x = y → cmpI x y = 0) := Lib.hid (fun h => by unfold cmpI; rw [if_neg (by omega), if_neg (by omega)])
  rcases Int.lt_trichotomy x y with h | h | h
  · have HX := Lib.hid (H1.out h)
    go_enter Try.func17, Try.ntmps17
    go_wp2_with (go_at_call 24; refine (nanI_any _ _).mono ?_; rintro e w' ⟨rfl, rfl⟩)
    go_ret
    exact RetIw.of HX.out
  · have HX := Lib.hid (H3.out h)
    have h1 : ¬ x < y := by omega
    have h2 : ¬ y < x := by omega
    have HE := Lib.hid h
    clear h
    go_enter Try.func17, Try.ntmps17
    go_wp2_with (go_at_call 24; refine (nanI_any _ _).mono ?_; rintro e w' ⟨rfl, rfl⟩)
    go_ret
    exact RetIw.of HX.out
  · have HX := Lib.hid (H2.out h)
    have h1 : ¬ x < y := by omega
    go_enter Try.func17, Try.ntmps17
    go_wp2_with (go_at_call 24; refine (nanI_any _ _).mono ?_; rintro e w' ⟨rfl, rfl⟩)
    go_ret
    exact RetIw.of HX.out
set_option maxHeartbeats 1000000 in
theorem cmpS_any (x y : ByteArray) (w : World) : Calls Try.prog 18 #[.string x, .string y] w (RetIw (cmpS x y) w) := by
  have H1 : Hid (Op.bytesLess x.toList y.toList = true → cmpS x y = -1) := Lib.hid (fun h => by unfold cmpS; rw [lessS_eq, h]; rfl)
  have H2 : Hid (Op.bytesLess x.toList y.toList = false → Op.bytesLess y.toList x.toList = true → cmpS x y = 1) := Lib.hid (fun h h2 => by unfold cmpS; rw [lessS_eq, lessS_eq, h, h2]; rfl)
  have H3 : Hid (Op.bytesLess x.toList y.toList = false → Op.bytesLess y.toList x.toList = false → cmpS x y = 0) := Lib.hid (fun h h2 => by unfold cmpS; rw [lessS_eq, lessS_eq, h, h2]; rfl)
  cases h : Op.bytesLess x.toList y.toList
  · cases h2 : Op.bytesLess y.toList x.toList
    · have HX := Lib.hid (H3.out h h2)
      have hE : (x.toList == y.toList) = true := by rw [bl_total _ _ h h2]; simp
      clear H1 H2 H3 h2
      go_enter Try.func18, Try.ntmps18
      go_wp2_with (go_at_call 25; refine (nanS_any _ _).mono ?_; rintro e w' ⟨rfl, rfl⟩)
      go_ret
      exact RetIw.of HX.out
    · have HX := Lib.hid (H2.out h h2)
      have hE : (x.toList == y.toList) = false := by
        cases hh : (x.toList == y.toList)
        · rfl
        · rw [eq_of_beq hh, bl_irr] at h2
          cases h2
      clear H1 H2 H3 h2
      go_enter Try.func18, Try.ntmps18
      go_wp2_with (go_at_call 25; refine (nanS_any _ _).mono ?_; rintro e w' ⟨rfl, rfl⟩)
      go_ret
      exact RetIw.of HX.out
  · have HX := Lib.hid (H1.out h)
    clear H1 H2 H3
    go_enter Try.func18, Try.ntmps18
    go_wp2_with (go_at_call 25; refine (nanS_any _ _).mono ?_; rintro e w' ⟨rfl, rfl⟩)
    go_ret
    exact RetIw.of HX.out
/-- The first of four that is no 0. -/
def orF (a b c d : Int) : Int := if a ≠ 0 then a else if b ≠ 0 then b else if c ≠ 0 then c else d
def or4 (a b c d : Int) (i : Nat) : Int := if i = 0 then a else if i = 1 then b else if i = 2 then c else d
set_option maxRecDepth 100000 in
set_option maxHeartbeats 2000000 in
theorem or_any (a b c d : Int) (g : Nat) (w : World) (h : Blk w g 3 #[.int .i64 a, .int .i64 b, .int .i64 c, .int .i64 d]) : Calls Try.prog 16 #[.slice (some ⟨g, 0, none⟩) 4 4] w (RetIw (orF a b c d) w) := by
  have HC : Hid (∀ k, k < 4 → w.cell? ⟨g, k, none⟩ = some (.int .i64 (or4 a b c d k))) := Lib.hid (by
    intro k hk
    rw [h.cell]
    rcases k with _ | _ | _ | _ | k
    · rfl
    · rfl
    · rfl
    · rfl
    · omega)
  have HO : Hid (∀ k, k < 4 → (∀ j, j < k → or4 a b c d j = 0) → or4 a b c d k ≠ 0 → orF a b c d = or4 a b c d k) := Lib.hid (by
    intro k hk h0 hn
    unfold orF
    rcases k with _ | _ | _ | _ | k
    · have : a ≠ 0 := hn
      simp [this, or4]
    · have h1 : a = 0 := h0 0 (by omega)
      have : b ≠ 0 := hn
      simp [this, h1, or4]
    · have h1 : a = 0 := h0 0 (by omega)
      have h2 : b = 0 := h0 1 (by omega)
      have : c ≠ 0 := hn
      simp [this, h1, h2, or4]
    · have h1 : a = 0 := h0 0 (by omega)
      have h2 : b = 0 := h0 1 (by omega)
      have h3 : c = 0 := h0 2 (by omega)
      simp [h1, h2, h3, or4]
    · omega)
  have HZ : Hid ((∀ j, j < 4 → or4 a b c d j = 0) → orF a b c d = 0) := Lib.hid (by
    intro h0
    have h1 : a = 0 := h0 0 (by omega)
    have h2 : b = 0 := h0 1 (by omega)
    have h3 : c = 0 := h0 2 (by omega)
    have h4 : d = 0 := h0 3 (by omega)
    simp [orF, h1, h2, h3, h4])
  clear h
  go_enter Try.func16, Try.ntmps16
  go_wp2_with fail
  go_loop [8] (fun i => ∃ k : Nat, i = .int .i64 k ∧ k ≤ 4 ∧ Hid (∀ j, j < k → or4 a b c d j = 0)) (fun i => 4 - (intOf i).toNat)
  case atStart => exact ⟨0, rfl, by omega, Lib.hid (fun j h => by omega)⟩
  case round =>
    obtain ⟨k, rfl, hk, HN⟩ := hrel
    by_cases hlt : k < 4
    · have hc := HC.out k hlt
      have HX := Lib.hid (HO.out k hlt HN.out)
      have HY : Hid (or4 a b c d k = 0 → ∀ j, j < k + 1 → or4 a b c d j = 0) := Lib.hid (by
        intro h j hj
        rcases (show j < k ∨ j = k by omega) with hx | rfl
        · exact HN.out j hx
        · exact h)
      generalize or4 a b c d k = x at *
      by_cases hx : x = 0
      · have HY2 := Lib.hid (HY.out hx)
        clear HX HY
        subst hx
        go_wp2_with fail
        go_round
        case rel => exact ⟨k + 1, by go_num, by omega, HY2⟩
        case measure => simp [intOf]; omega
      · have HX2 := Lib.hid (HX.out hx)
        have hx' : (x != 0) = true := by simpa using hx
        clear HX HY hx
        go_wp2_with fail
        go_ret
        exact RetIw.of HX2.out
    · obtain rfl : k = 4 := by omega
      have HX := Lib.hid (HZ.out HN.out)
      go_wp2_with fail
      go_ret
      exact RetIw.of HX.out
end Go.Proofs.Yticmfflnenoplac
