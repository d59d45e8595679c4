/- Devices: the reference's pool: NewPool, Is, Count: their walks. No statement is proved here. -/
import Derived.Test.YticmfflnenoplaaDvC
import Derived.Laws.AppendOwnNone
namespace Go.Proofs.Yticmfflnenoplaa
open Go.RowKit Dv Mk
namespace Dv
def pad (u : List Bool) : List Value := (List.range 16).map fun i => .bool (u.getD i false)
theorem pad_at (v : Value) (u : List Bool) (i : Nat) (hi : i < 16) : (v :: pad u).toArray[1 + i]? = some (.bool (u.getD i false)) := by
  rw [Nat.add_comm]
  simp [pad, List.getElem?_range hi]
theorem pad_set (v : Value) (u : List Bool) (i : Nat) (hi : i < u.length) (b : Bool) : (v :: pad u).toArray.setIfInBounds (1 + i) (.bool b) = (v :: pad (u.set i b)).toArray := by
  apply Array.ext'
  rw [Array.toList_setIfInBounds, Nat.add_comm]
  simp only [List.set_cons_succ, List.cons.injEq, true_and]
  apply List.ext_getElem?
  intro j
  unfold pad
  rw [List.getElem?_set]
  by_cases hj : j < 16
  · by_cases hij : i = j
    · subst hij
      simp [hj, hi]
    · simp [hj, hij, List.getD, List.getElem?_set]
  · by_cases hij : i = j
    · subst hij
      simp [hj]
    · have hnn : (List.range 16)[j]? = none := by rw [List.getElem?_eq_none_iff]; simp; omega
      rw [if_neg hij, List.getElem?_map, List.getElem?_map, hnn]
      rfl
/-- The reference's pool at block bp. -/
structure RIs (w : World) (base bp : Nat) (vl : Value) (l : List Dev) (u : List Bool) : Prop where
  blk : Blk w bp 147 (vl :: pad u).toArray
  rl : Row w base vl l
  len : u.length = l.length
section
variable {w w' : World} {base bp : Nat} {vl : Value} {l : List Dev} {u : List Bool} {S : Nat → Prop}
theorem RIs.kept (h : RIs w base bp vl l u) (hk : Kept S w w') (hb : ¬ S bp) (h1 : ∀ g, vl.ownBlock = some g → ¬ S g) : RIs w' base bp vl l u :=
  ⟨h.blk.kept hk hb, h.rl.kept hk h1, h.len⟩
theorem RIs.below (h : RIs w base bp vl l u) (hb : Below w.heap.size w w') : RIs w' base bp vl l u :=
  h.kept (S := fun _ => False) (Kept.of_below hb) (fun h => h) (fun _ _ h => h)
theorem RIs.c0 (h : RIs w base bp vl l u) : w.cell? ⟨bp, 0, none⟩ = some vl := (h.blk.cell 0).trans rfl
theorem RIs.used (h : RIs w base bp vl l u) {i : Nat} (hi : i < l.length) : w.cell? ⟨bp, 1 + i, none⟩ = some (.bool (u[i]'(by rw [h.len]; exact hi))) := by
  rw [h.blk.cell, pad_at _ _ _ (by have := h.rl.many; omega)]
  have : i < u.length := by rw [h.len]; exact hi
  simp [List.getD, this]
end
end Dv
set_option maxHeartbeats 1000000 in
theorem RIs_any (base bp : Nat) (vl : Value) (l : List Dev) (u : List Bool) (x : Int) (w : World) (h : RIs w base bp vl l u) : Calls Try.prog 100 #[.pointer (some ⟨bp, 0, none⟩), .int .i64 x] w (fun e w' => e = .returned (.int .i64 (isF l.length x)) ∧ w = w') := by
  have hc := h.c0
  obtain ⟨A, c, rfl, q1, q2⟩ := h.rl.form
  have hn := h.rl.many
  unfold maxLen at q2
  clear h
  by_cases h1 : x < 0
  · have e2 := Lib.hid (isF_bad (n := l.length) (x := x) (.inl h1))
    go_enter Try.func100, Try.ntmps100
    go_wp2_with fail
    go_ret
    exact ⟨by rw [e2.out]; rfl, rfl⟩
  · by_cases h2 : (l.length : Int) ≤ x
    · have e2 := Lib.hid (isF_bad (n := l.length) (x := x) (.inr h2))
      go_enter Try.func100, Try.ntmps100
      go_wp2_with fail
      go_ret
      exact ⟨by rw [e2.out]; rfl, rfl⟩
    · have e2 := Lib.hid (isF_ok (n := l.length) (x := x) (by omega) (by omega))
      go_enter Try.func100, Try.ntmps100
      go_wp2_with fail
      go_ret
      exact ⟨by rw [e2.out]; rfl, rfl⟩
def RNewP (l : List Dev) (w : World) (e : Ending) (w' : World) : Prop :=
  (newF l ≠ 0 ∧ e = .returned (.tuple #[.pointer none, .int .i64 (newF l)]) ∧ Below w.heap.size w w') ∨
  (newF l = 0 ∧ ∃ bp vl, e = .returned (.tuple #[.pointer (some ⟨bp, 0, none⟩), .int .i64 0]) ∧ RIs w' w.heap.size bp vl l (List.replicate l.length false) ∧ w.heap.size ≤ bp ∧ Below w.heap.size w w')
theorem RNewP.bad {l : List Dev} {w w' : World} {f : Int} (h : newF l = f) (h0 : f ≠ 0) (hb : Below w.heap.size w w') {v : Value} (hv : v = .int .i64 f) : RNewP l w (.returned (.tuple #[.pointer none, v])) w' :=
  .inl ⟨by rw [h]; exact h0, by rw [h, hv], hb⟩
theorem pad_none : ∀ n : Nat, pad (List.replicate n false) = List.replicate 16 (.bool false) := by
  intro n
  unfold pad
  have h : (fun i => Value.bool ((List.replicate n false).getD i false)) = fun _ => .bool false := by
    funext i
    by_cases hn : i < n <;> simp [List.getD, hn]
  rw [h]
  rfl
theorem RNewP.good {l : List Dev} {w wF : World} {bp B1 : Nat} {vl : Value} (h0 : newF l = 0) (hblk : Blk wF bp 147 #[vl, .bool false, .bool false, .bool false, .bool false, .bool false, .bool false, .bool false, .bool false, .bool false, .bool false, .bool false, .bool false, .bool false, .bool false, .bool false, .bool false])
    (hrow : wF.ownsRow B1 131 3 vl l.length (flatD l)) (h1 : w.heap.size ≤ B1) (hfi : ∀ d ∈ l, fineD d ∧ d.kind.size ≤ maxLen) (hm : l.length ≤ 16) (hbp : w.heap.size ≤ bp) (hb : Below w.heap.size w wF) :
    RNewP l w (.returned (.tuple #[.pointer (some ⟨bp, 0, none⟩), .int .i64 0])) wF :=
  .inr ⟨h0, bp, vl, rfl, ⟨hblk.cast (by rw [pad_none]; rfl), ⟨dv_base hrow h1, hm, fun d hd => (hfi d hd).1, fun d hd => (hfi d hd).2⟩, by simp⟩, hbp, hb⟩
section
attribute [local irreducible] newF devF Qo.nameMay
set_option maxRecDepth 100000 in
set_option maxHeartbeats 2000000 in
theorem RNew_any (v : Value) (l : List Dev) (w : World) (h : RSlice w w.heap.size 3 RDev [v] l) : Calls Try.prog 93 #[v] w (RNewP l w) := by
  obtain ⟨A, cap, hv, hl, hcap, hA⟩ := h.form
  obtain rfl : v = _ := by simpa using hv
  unfold maxLen at hcap
  by_cases hn : 16 < l.length
  · have HF := Lib.hid (newMany hn)
    clear h hv hA
    go_enter Try.func93, Try.ntmps93
    go_wp2
    go_ret2
    exact RNewP.bad HF.out (by omega) (Below.refl _ _) rfl
  · have HF := Lib.hid (newDev (l := l) (by omega))
    have HA := Lib.hid hA
    have HR := Lib.hid h
    clear h hv hA
    go_enter Try.func93, Try.ntmps93
    go_wp2_with fail
    go_loop [4] (fun i => ∃ k : Nat, i = .int .i64 k ∧ k ≤ l.length ∧ Hid (∀ j (hj : j < l.length), j < k → fineD l[j] ∧ l[j].kind.size ≤ maxLen)) (fun i => l.length - (intOf i).toNat)
    case atStart => exact ⟨0, rfl, by omega, Lib.hid (fun j hj h => by omega)⟩
    case round =>
      obtain ⟨k, rfl, hk, HN⟩ := hrel
      by_cases hlt : k < l.length
      · obtain ⟨b, off, rfl⟩ := HA.out k hlt
        obtain ⟨hblt, cs', hc1, hc2, hr1, hr2, hr3, hr4⟩ := HR.out.at_ hlt
        have g0 := hc2 0 (.string l[k].kind) (by rw [hr1]; rfl)
        have g1 := hc2 1 (.int .i64 l[k].node) (by rw [hr1]; rfl)
        simp only [Nat.add_zero] at g0
        clear hc2 hr1 hc1
        have HNA := Lib.hid (fun W => NameMay_any l[k].kind hr2 W)
        have HE := Lib.hid (devF_name l k hlt (fun j hj hjk => (HN.out j hj hjk).1))
        have HE2 := Lib.hid (devF_node l k hlt (fun j hj hjk => (HN.out j hj hjk).1))
        have HS : Hid (Qo.nameMay l[k].kind = true → 0 ≤ l[k].node → l[k].node ≤ 3 → ∀ j (hj : j < l.length), j < k + 1 → fineD l[j] ∧ l[j].kind.size ≤ maxLen) := Lib.hid (by
          intro a b c j hj hjk
          rcases (show j < k ∨ j = k by omega) with h | h
          · exact HN.out j hj h
          · subst h; exact ⟨⟨a, b, c⟩, hr2⟩)
        generalize l[k] = d at *
        obtain ⟨dk, dn, ds⟩ := d
        dsimp only at *
        clear hr2 HN
        cases hnm : Qo.nameMay dk
        · have HX := Lib.hid (HE.out hnm)
          rw [hnm] at HNA
          clear HE HE2 HS hnm
          go_wp2_with fail
          refine (HNA.out _).mono ?_
          rintro e w' ⟨rfl, rfl⟩
          go_wp2_with fail
          go_ret2
          exact RNewP.bad (HF.out.trans HX.out) (by omega) (Below.refl _ _) rfl
        · have HX := Lib.hid (HE2.out hnm)
          have HY := Lib.hid (HS.out hnm)
          rw [hnm] at HNA
          clear HE HE2 HS hnm
          by_cases h1 : dn < 0
          · have HZ := Lib.hid (HX.out (.inl h1))
            clear HX HY
            go_wp2_with fail
            refine (HNA.out _).mono ?_
            rintro e w' ⟨rfl, rfl⟩
            go_wp2_with fail
            go_ret2
            exact RNewP.bad (HF.out.trans HZ.out) (by omega) (Below.refl _ _) rfl
          · by_cases h2 : 3 < dn
            · have HZ := Lib.hid (HX.out (.inr h2))
              clear HX HY
              go_wp2_with fail
              refine (HNA.out _).mono ?_
              rintro e w' ⟨rfl, rfl⟩
              go_wp2_with fail
              go_ret2
              exact RNewP.bad (HF.out.trans HZ.out) (by omega) (Below.refl _ _) rfl
            · have HZ := Lib.hid (HY.out (by omega) (by omega))
              clear HX HY
              go_wp2_with fail
              refine (HNA.out _).mono ?_
              rintro e w' ⟨rfl, rfl⟩
              go_wp2_with fail
              go_round
              case rel => exact ⟨k + 1, by go_num, by omega, HZ⟩
              case measure => simp [intOf]; omega
      · obtain rfl : k = l.length := by omega
        have HF0 := Lib.hid (HF.out.trans (devF_ok l (fun j hj => (HN.out j hj hj).1)))
        have HFI : Hid (∀ d ∈ l, fineD d ∧ d.kind.size ≤ maxLen) := Lib.hid (by
          intro d hd
          obtain ⟨j, hj, rfl⟩ := List.getElem_of_mem hd
          exact HN.out j hj hj)
        obtain ⟨i0, hi0, hz0, hz1, hz2⟩ := info_parts devT.hi
        have HI0 := Lib.hid hi0
        have HZ0 := Lib.hid hz0
        have HZ1 := Lib.hid hz1
        have HZ2 := Lib.hid hz2
        have hl16 : l.length ≤ 16 := by omega
        have HLD := Lib.hid (flatD_len l)
        have HL1 := Lib.hid (flatD_one l)
        cases A with
        | none =>
          have h0 : l.length = 0 := by
            rcases Nat.eq_zero_or_pos l.length with h | h
            · exact h
            · obtain ⟨b, off, hh⟩ := HA.out 0 h
              cases hh
          obtain rfl : l = [] := List.eq_nil_of_length_eq_zero h0
          clear hi0 hz0 hz1 hz2 HN HR HA HF hk hlt hn
          go_wp2_with fail
          go_ret2
          exact RNewP.good HF0.out (Blk.new w _ _) (World.ownsRow_nil _ _ _ _) (Nat.le_refl _) HFI.out hl16 (Nat.le_refl _) ((Below.refl _ _).alloc (Nat.le_refl _) _)
        | some a =>
          have HCE : Hid (∀ j u, (flatD l)[j]? = some u → w.cell? (a.add j) = some u) := Lib.hid (by
            intro j u hu
            have hj := (List.getElem?_eq_some_iff.1 hu).1
            rw [flatD_len] at hj
            have hi : j / 3 < l.length := by omega
            obtain ⟨b, off, he⟩ := HA.out 0 (by omega)
            obtain rfl := Option.some.inj he
            obtain ⟨_, cs', hc1, hc2, hr1, _⟩ := HR.out.at_ hi
            have e : off + j = off + j / 3 * 3 + j % 3 := by omega
            rw [Addr.add_lit, e]
            refine hc2 (j % 3) u ?_
            rw [hr1, ← flatD_at l (j / 3) hi (j % 3) (Nat.mod_lt _ (by omega)), show j / 3 * 3 + j % 3 = j by omega, hu])
          clear hi0 hz0 hz1 hz2 HN HR HA HF hk hlt hn
          go_wp2_with (at_builtin; refine wpList_append_own _ rfl (.const (.slice none 0 0)) (.tmp 37) 129 rfl w.heap.size 131 i0 _ 3 _ Try.underlying129 HI0.out HZ0.out HZ1.out HZ2.out rfl (by decide) (.slice none 0 0) 0 [] rfl (World.ownsRow_nil _ _ _ _) a l.length cap (flatD l) rfl ?c1 ?c2 ?c3 ?c4 ?c5 ?c6 ?_)
          case c1 => exact HLD.out
          case c2 => exact HCE.out
          case c3 => exact HL1.out
          case c4 => unfold maxLen; omega
          case c5 => omega
          intro v1 w1 hown hgr _
          have HO := Lib.hid hown
          have HB : Hid (Below w.heap.size w w1) := Lib.hid ((Below.refl _ _).grown hgr (Nat.le_refl _) (fun k hk => by cases hk))
          obtain ⟨A1, c1, rfl, _⟩ := own_form hown
          clear hown hgr
          go_wp2_with fail
          go_ret2
          exact RNewP.good HF0.out (Blk.new w1 _ _) (HO.out.alloc _) (Nat.le_refl _) HFI.out hl16 HB.out.size (HB.out.alloc HB.out.size _)
end
end Go.Proofs.Yticmfflnenoplaa
