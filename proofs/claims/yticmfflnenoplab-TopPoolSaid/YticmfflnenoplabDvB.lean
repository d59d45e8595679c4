/- Devices: New, Devices, Used, Sick: their walks. No statement is proved here. -/
import Derived.Test.YticmfflnenoplabDvA
import Derived.Deep.RegionWith
import Derived.Laws.MakeOwn
import Derived.Lib.SliceRun
namespace Go.Proofs.Yticmfflnenoplab
open Go.RowKit Dv
theorem boolT : ElemT Try.prog 110 4 (.bool false) 1 1 := ⟨Try.underlying110, by kernel_rfl, rfl, by omega⟩
set_option maxRecDepth 100000 in
set_option maxHeartbeats 1000000 in
/-- slices.Clone: the same elements, in memory of the call's own. -/
theorem CloneD (A : Option Addr) (n c : Nat) (news : List Value) (w : World) (hn : n ≤ 1000000) (hl : news.length = n * 3) (hA : A = none → n = 0) (hc : 0 < n → ∃ b off, A = some ⟨b, off, none⟩ ∧ ∀ (j : Nat) (u : Value), news[j]? = some u → w.cell? ⟨b, off + j, none⟩ = some u) (h1 : ∀ u ∈ news, u.oneCell' = true) :
    Calls Try.prog 46 #[.slice A n c] w (fun e w' => ∃ A' c', e = .returned (.slice A' n c') ∧ w'.ownsRow w.heap.size 76 3 (.slice A' n c') n news ∧ Below w.heap.size w w') := by
  obtain ⟨i0, hi0, hz0, hz1, hz2⟩ := info_parts devT.hi
  cases A with
  | none =>
    obtain rfl := hA rfl
    obtain rfl : news = [] := List.eq_nil_of_length_eq_zero (by simpa using hl)
    have q22 : ∀ (w : World) (a : Option Addr) (n c n' c' : Nat), (binOp .eql 70 (.slice a n c) (.slice none n' c')).run Try.prog w = .ok (.bool a.isNone) w := fun w a n c n' c' => Lib.run_eql_slice_nil w _ _ a n c n' c' Try.underlying70
    clear hc
    go_enter Try.func46, Try.ntmps46
    go_wp2_with fail
    go_ret
    exact ⟨none, 0, rfl, World.ownsRow_nil _ _ _ _, Below.refl _ _⟩
  | some a =>
    have q22 : ∀ (w : World) (a : Option Addr) (n c n' c' : Nat), (binOp .eql 70 (.slice a n c) (.slice none n' c')).run Try.prog w = .ok (.bool a.isNone) w := fun w a n c n' c' => Lib.run_eql_slice_nil w _ _ a n c n' c' Try.underlying70
    have HC := Lib.hid hc
    have HL := Lib.hid hl
    have H1 := Lib.hid h1
    clear hA hc hl h1
    have hcs : Hid (∀ (j : Nat) (u : Value), news[j]? = some u → (w.alloc (.cells #[] 76)).cell? (a.add j) = some u) := Lib.hid (by
      intro j u hu
      have hp : 0 < n := by
        rcases Nat.eq_zero_or_pos n with h | h
        · have := (List.getElem?_eq_some_iff.1 hu).1
          have h2 := HL.out
          rw [h] at h2
          omega
        · exact h
      obtain ⟨b, off, he, hcc⟩ := HC.out hp
      obtain rfl := Option.some.inj he
      rw [Addr.add_lit]
      exact Lib.cell?_alloc_some _ (hcc j u hu))
    go_enter Try.func46, Try.ntmps46
    go_wp2_with (at_builtin; refine wpList_append_own _ rfl _ _ 70 rfl w.heap.size 76 i0 _ 3 _ Try.underlying70 hi0 hz0 hz1 hz2 rfl (by decide) _ _ _ rfl (World.ownsRow_made w #[] 0 (Nat.le_refl _) (Nat.zero_le _) rfl) a n c news rfl ?qc1 ?qc2 ?qc3 ?qc4 ?qc5 ?qc6 ?_)
    case qc1 => exact HL.out
    case qc2 => exact hcs.out
    case qc3 => exact H1.out
    case qc4 => unfold maxLen; omega
    case qc5 => omega
    case qc6 => simp
    intro v' w1 hown hgrow hnil
    go_wp2
    go_ret
    obtain ⟨A', c', hv', _⟩ := own_form hown
    subst hv'
    refine ⟨A', c', ?_, by simpa using hown, ?_⟩
    · simp
    · exact ((Below.refl _ w).alloc (Nat.le_refl _) _).grown hgrow (by simp) (by intro k hk; simp [Value.ownBlock] at hk; omega)

theorem make_bools (n : Nat) (hn : n ≤ 16) (w : World) : (Instr.makeSlice 110 (.int .i64 (n : Int)) (.int .i64 (n : Int))).run Try.prog w = .ok (.slice (some ⟨w.heap.size, 0, none⟩) n n) (w.alloc (.cells (boolsV (List.replicate n false)).toArray 4)) := by
  obtain ⟨i0, hi0, hz0, hz1, hz2⟩ := info_parts boolT.hi
  have h := run_make (P := Try.prog) w 110 4 i0 _ boolT.ht hi0 hz0 .i64 .i64 (n : Int) (n : Int) (by omega) (Int.le_refl _) (by rw [hz2]; omega) (by omega)
  rw [hz1] at h
  simp only [Int.toNat_natCast, Nat.mul_one] at h
  have hm : madeCells (Value.bool false).cells n = (boolsV (List.replicate n false)).toArray := by
    apply Array.ext'
    rw [show (Value.bool false).cells = #[.bool false] from rfl, toList_madeCells_one]
    simp [boolsV]
  rw [hm] at h
  exact h
def NewP (l : List Dev) (w : World) (e : Ending) (w' : World) : Prop :=
  (newF l ≠ 0 ∧ e = .returned (.tuple #[.pointer none, errV (newF l)]) ∧ Below w.heap.size w w') ∨
  (newF l = 0 ∧ ∃ bp vl vu, e = .returned (.tuple #[.pointer (some ⟨bp, 0, none⟩), .nilIface]) ∧ Dv.Is w' w.heap.size bp vl vu l (List.replicate l.length false) ∧ w.heap.size ≤ bp ∧ Below w.heap.size w w')
theorem NewP.bad {l : List Dev} {w w' : World} {f : Int} (h : newF l = f) (h0 : f ≠ 0) {v : Value} (hv : v = errV f) (hb : Below w.heap.size w w') : NewP l w (.returned (.tuple #[.pointer none, v])) w' :=
  .inl ⟨by rw [h]; exact h0, by rw [hv, h], hb⟩
theorem dv_base {w : World} {b b' : Nat} {e : TypeId} {size n : Nat} {v : Value} {xs : List Value} (h : w.ownsRow b e size v n xs) (hb : b' ≤ b) : w.ownsRow b' e size v n xs := by
  refine ⟨h.1, ?_⟩
  rcases h.2 with h2 | ⟨g, cap, cur, h1, h2, h3⟩
  · exact .inl h2
  · exact .inr ⟨g, cap, cur, h1, Nat.le_trans hb h2, h3⟩
theorem Blk.new1 (w : World) (o : Obj) (t : TypeId) (cs : Array Value) : Blk ((w.alloc o).alloc (.cells cs t)) (w.heap.size + 1) t cs := by
  have := Blk.new (w.alloc o) t cs
  rwa [World.size_alloc] at this
theorem NewP.good {l : List Dev} {w wF : World} {bp B1 B2 : Nat} {vl vu : Value} (h0 : newF l = 0) (hblk : Blk wF bp 112 #[vl, vu]) (hrow : wF.ownsRow B1 76 3 vl l.length (flatD l)) (h1 : w.heap.size ≤ B1)
    (hu : wF.ownsRow B2 4 1 vu l.length (boolsV (List.replicate l.length false))) (h2 : w.heap.size ≤ B2) (hfi : ∀ d ∈ l, fineD d ∧ d.kind.size ≤ maxLen) (hm : l.length ≤ 16) (hbp : w.heap.size ≤ bp) (hb : Below w.heap.size w wF) :
    NewP l w (.returned (.tuple #[.pointer (some ⟨bp, 0, none⟩), .nilIface])) wF :=
  .inr ⟨h0, bp, vl, vu, rfl, ⟨hblk, ⟨dv_base hrow h1, hm, fun d hd => (hfi d hd).1, fun d hd => (hfi d hd).2⟩, dv_base hu h2, by simp⟩, hbp, hb⟩
theorem dv_own_ne {w : World} {base base' : Nat} {e e' : TypeId} {size size' n n' : Nat} {v v' : Value} {xs xs' : List Value} (h : w.ownsRow base e size v n xs) (h' : w.ownsRow base' e' size' v' n' xs') (hne : e ≠ e') {g : Nat} (hg : v.ownBlock = some g) : v'.ownBlock ≠ some g := by
  rcases h.2 with ⟨rfl, _⟩ | ⟨g', cap, cur, rfl, _, hh, _⟩
  · simp [Value.ownBlock] at hg
  · have : g' = g := by simpa [Value.ownBlock] using hg
    subst this
    exact own_blk_ne h' hh (Ne.symm hne)
theorem newMany {l : List Dev} (h : 16 < l.length) : newF l = 2 := by simp [newF, h]
theorem newDev {l : List Dev} (h : l.length ≤ 16) : newF l = devF l := by simp [newF]; omega
section
attribute [local irreducible] newF devF Qo.nameMay
set_option maxRecDepth 100000 in
set_option maxHeartbeats 2000000 in
theorem DvNew_any (v : Value) (l : List Dev) (w : World) (h : RSlice w w.heap.size 3 RDev [v] l) : Calls Try.prog 25 #[v] w (NewP l w) := by
  obtain ⟨A, cap, hv, hl, hcap, hA⟩ := h.form
  obtain rfl : v = _ := by simpa using hv
  unfold maxLen at hcap
  by_cases hn : 16 < l.length
  · have HF := Lib.hid (newMany hn)
    clear h hv hA
    go_enter Try.func25, Try.ntmps25
    go_wp2
    go_ret2
    exact NewP.bad HF.out (by omega) (by rw [errV_pos 2 (by omega)]; rfl) (Below.refl _ _)
  · have HF := Lib.hid (newDev (l := l) (by omega))
    have HA := Lib.hid hA
    have HR := Lib.hid h
    clear h hv hA
    go_enter Try.func25, Try.ntmps25
    go_wp2_with fail
    go_loopw [12] (fun i wi => ∃ k : Nat, i = .int .i64 k ∧ k ≤ l.length ∧ Below w.heap.size w wi ∧ Hid (∀ j (hj : j < l.length), j < k → fineD l[j] ∧ l[j].kind.size ≤ maxLen)) (fun i _ => l.length - (intOf i).toNat)
    case atStart => exact ⟨0, rfl, by omega, Below.refl _ _, Lib.hid (fun j hj h => by omega)⟩
    case round =>
      obtain ⟨k, rfl, hk, hb, HN⟩ := hrel
      by_cases hlt : k < l.length
      · obtain ⟨b, off, rfl⟩ := HA.out k hlt
        obtain ⟨hblt, cs', hc1, hc2, hr1, hr2, hr3, hr4⟩ := (HR.out.below hb).at_ hlt
        have g0 := hc2 0 (.string l[k].kind) (by rw [hr1]; rfl)
        have g1 := hc2 1 (.int .i64 l[k].node) (by rw [hr1]; rfl)
        have g2 := hc2 2 (.bool l[k].sick) (by rw [hr1]; rfl)
        simp only [Nat.add_zero] at g0
        clear hc2 hr1 hc1
        have HNA := Lib.hid (fun W => Name_any l[k].kind hr2 W)
        have HE := Lib.hid (devF_name l k hlt (fun j hj hjk => (HN.out j hj hjk).1))
        have HE2 := Lib.hid (devF_node l k hlt (fun j hj hjk => (HN.out j hj hjk).1))
        have HS : Hid (Qo.nameMay l[k].kind = true → 0 ≤ l[k].node → l[k].node ≤ 3 → ∀ j (hj : j < l.length), j < k + 1 → fineD l[j] ∧ l[j].kind.size ≤ maxLen) := Lib.hid (by
          intro a b c j hj hjk
          rcases (show j < k ∨ j = k by omega) with h | h
          · exact HN.out j hj h
          · subst h; exact ⟨⟨a, b, c⟩, hr2⟩)
        generalize l[k] = d at *
        obtain ⟨dk, dn, ds⟩ := d
        dsimp only at *
        clear hr2 HN
        have hbn := hb.alloc hb.size (.cells #[.string dk, .int .i64 dn, .bool ds] 76)
        cases hnm : Qo.nameMay dk
        · have HX := Lib.hid (HE.out hnm)
          rw [hnm] at HNA
          clear HE HE2 HS hnm
          go_wp2_with fail
          refine (HNA.out _).mono ?_
          rintro e w' ⟨rfl, rfl⟩
          go_wp2_with fail
          go_ret2
          exact NewP.bad (HF.out.trans HX.out) (by omega) (by rw [errV_pos 3 (by omega)]; rfl) hbn
        · have HX := Lib.hid (HE2.out hnm)
          have HY := Lib.hid (HS.out hnm)
          rw [hnm] at HNA
          clear HE HE2 HS hnm
          by_cases h1 : dn < 0
          · have HZ := Lib.hid (HX.out (.inl h1))
            clear HX HY
            go_wp2_with fail
            refine (HNA.out _).mono ?_
            rintro e w' ⟨rfl, rfl⟩
            go_wp2_with fail
            go_ret2
            exact NewP.bad (HF.out.trans HZ.out) (by omega) (by rw [errV_pos 1 (by omega)]; rfl) hbn
          · by_cases h2 : 3 < dn
            · have HZ := Lib.hid (HX.out (.inr h2))
              clear HX HY
              go_wp2_with fail
              refine (HNA.out _).mono ?_
              rintro e w' ⟨rfl, rfl⟩
              go_wp2_with fail
              go_ret2
              exact NewP.bad (HF.out.trans HZ.out) (by omega) (by rw [errV_pos 1 (by omega)]; rfl) hbn
            · have HZ := Lib.hid (HY.out (by omega) (by omega))
              clear HX HY
              go_wp2_with fail
              refine (HNA.out _).mono ?_
              rintro e w' ⟨rfl, rfl⟩
              go_wp2_with fail
              go_roundw
              case rel => exact ⟨k + 1, by go_num, by omega, hbn, HZ⟩
              case measure => simp [intOf]; omega
      · obtain rfl : k = l.length := by omega
        have hdf := devF_ok l (fun j hj => (HN.out j hj hj).1)
        have HF0 := Lib.hid (HF.out.trans hdf)
        have hmk := fun w => make_bools l.length (by omega) w
        have hnn : ∀ (j : Nat) (hj : j < l.length), ∃ b off, A = some ⟨b, off, none⟩ := fun j hj => HA.out j hj
        have HCL : Hid (∀ W, Below w.heap.size w W → Calls Try.prog 46 #[.slice A l.length cap] W (fun e w' => ∃ A' c', e = .returned (.slice A' l.length c') ∧ w'.ownsRow W.heap.size 76 3 (.slice A' l.length c') l.length (flatD l) ∧ Below W.heap.size W w')) := Lib.hid (by
          intro W hW
          refine CloneD A l.length cap (flatD l) W (by omega) (flatD_len l) ?_ ?_ (flatD_one l)
          · rintro rfl
            rcases Nat.eq_zero_or_pos l.length with h | h
            · exact h
            · obtain ⟨b, off, hh⟩ := hnn 0 h
              cases hh
          · intro hp
            obtain ⟨b, off, rfl⟩ := hnn 0 hp
            refine ⟨b, off, rfl, fun j u hu => ?_⟩
            have hj := (List.getElem?_eq_some_iff.1 hu).1
            rw [flatD_len] at hj
            have hi : j / 3 < l.length := by omega
            obtain ⟨_, cs', hc1, hc2, hr1, _⟩ := (HR.out.below hW).at_ hi
            have e : off + j = off + j / 3 * 3 + j % 3 := by omega
            rw [e]
            refine hc2 (j % 3) u ?_
            rw [hr1, ← flatD_at l (j / 3) hi (j % 3) (Nat.mod_lt _ (by omega)), show j / 3 * 3 + j % 3 = j by omega, hu])
        have HFI : Hid (∀ d ∈ l, fineD d ∧ d.kind.size ≤ maxLen) := Lib.hid (by
          intro d hd
          obtain ⟨j, hj, rfl⟩ := List.getElem_of_mem hd
          exact HN.out j hj hj)
        have hbd := hb.drew
        have hl16 : l.length ≤ 16 := by omega
        have hlr := Lib.hid (show (boolsV (List.replicate l.length false)).length = l.length * 1 by simp [boolsV])
        clear hdf hnn HN HR HA hk hlt hn
        go_wp2_with fail
        go_region_with (go_at_call 46; refine (HCL.out _ (by first | exact hbd | exact hbd.alloc hbd.size _)).mono ?_; rintro e w1 ⟨A', c', rfl, hown, hb1⟩)
        · go_wp2_with fail
          go_ret2
          have hz : w.heap.size ≤ w1.heap.size := Nat.le_trans hb.size hb1.size
          have hbz := hbd.trans (hb1.mono hb.size)
          have hr2 : (w1.alloc (.cells (boolsV (List.replicate l.length false)).toArray 4)).ownsRow w1.heap.size 4 1 (.slice (some ⟨w1.heap.size, 0, none⟩) l.length l.length) l.length (boolsV (List.replicate l.length false)) :=
            World.ownsRow_lit (base := w1.heap.size) (e := 4) (size := 1) w1 _ l.length (Nat.le_refl _) (by unfold maxLen; omega) hlr.out
          exact NewP.good HF0.out (Blk.new1 w1 _ _ _) ((hown.alloc _).alloc _) hb.size (hr2.alloc _) hz HFI.out hl16 (by omega) ((hbz.alloc hz _).alloc (by simp; omega) _)
        · go_wp2_with fail
          go_ret2
          have hz : w.heap.size ≤ w1.heap.size := Nat.le_trans hb.size (Nat.le_trans (by simp) hb1.size)
          have hbz := (hbd.alloc hbd.size (.cells (boolsV (List.replicate l.length false)).toArray 4)).trans (hb1.mono (by have := hb.size; simp; omega))
          have hr2 : (wr.drew.alloc (.cells (boolsV (List.replicate l.length false)).toArray 4)).ownsRow wr.heap.size 4 1 (.slice (some ⟨wr.heap.size, 0, none⟩) l.length l.length) l.length (boolsV (List.replicate l.length false)) :=
            World.ownsRow_lit (base := wr.heap.size) (e := 4) (size := 1) wr.drew _ l.length (Nat.le_refl _) (by unfold maxLen; omega) hlr.out
          exact NewP.good HF0.out (Blk.new w1 _ _) (hown.alloc _) (by have := hb.size; simp; omega) ((own_below hr2 hb1).alloc _) hb.size HFI.out hl16 hz (hbz.alloc hz _)
end
def isF (n : Nat) (x : Int) : Int := if x < 0 ∨ (n : Int) ≤ x then 1 else 0
theorem isF_bad {n : Nat} {x : Int} (h : x < 0 ∨ (n : Int) ≤ x) : isF n x = 1 := by simp [isF, h]
theorem isF_ok {n : Nat} {x : Int} (h : 0 ≤ x) (h2 : x < n) : isF n x = 0 := by unfold isF; rw [if_neg (by omega)]
def DevicesP (l : List Dev) (w : World) (e : Ending) (w' : World) : Prop :=
  ∃ A c, e = .returned (.slice A l.length c) ∧ w'.ownsRow w.heap.size 76 3 (.slice A l.length c) l.length (flatD l) ∧ Below w.heap.size w w'
theorem Clone_row {w : World} {base : Nat} {A : Option Addr} {cap : Nat} {l : List Dev} (h : Row w base (.slice A l.length cap) l) :
    Calls Try.prog 46 #[.slice A l.length cap] w (DevicesP l w) := by
  refine (CloneD A l.length cap (flatD l) w (by have := h.many; omega) (flatD_len l) ?_ ?_ (flatD_one l)).mono fun e w' ⟨A', c', h1, h2, h3⟩ => ⟨A', c', h1, h2, h3⟩
  · rintro rfl
    obtain ⟨A', c', he, _, _, h3⟩ := own_form h.row
    simp only [Value.slice.injEq] at he
    rcases Nat.eq_zero_or_pos l.length with hh | hh
    · exact hh
    · obtain ⟨g, hg, _⟩ := h3 hh
      rw [← he.1] at hg
      cases hg
  · intro hp
    obtain ⟨A', c', he, _, _, h3⟩ := own_form h.row
    simp only [Value.slice.injEq, true_and] at he
    obtain ⟨rfl, rfl⟩ := he
    obtain ⟨g, rfl, _, _⟩ := h3 hp
    refine ⟨g, 0, rfl, fun j u hu => ?_⟩
    have hj := (List.getElem?_eq_some_iff.1 hu).1
    rw [flatD_len] at hj
    rw [Nat.zero_add, h.row.cellAt j hj, hu]
theorem Dv.Row.form {w : World} {base : Nat} {v : Value} {l : List Dev} (h : Row w base v l) : ∃ A c, v = .slice A l.length c ∧ l.length ≤ c ∧ c ≤ maxLen := by
  obtain ⟨A, c, h1, h2, h3, _⟩ := own_form h.row
  exact ⟨A, c, h1, h2, h3⟩
/-- Is the device somebody's? -/
def usedF (u : List Bool) (x : Int) : Bool := if x < 0 ∨ (u.length : Int) ≤ x then false else u.getD x.toNat false
theorem usedF_bad {u : List Bool} {x : Int} (h : x < 0 ∨ (u.length : Int) ≤ x) : usedF u x = false := by simp [usedF, h]
theorem usedF_ok {u : List Bool} {k : Nat} (h : k < u.length) : usedF u k = u[k] := by
  unfold usedF
  rw [if_neg (by omega)]
  simp [List.getD, h]
def UsedP (b : Bool) (f : Int) (w : World) (e : Ending) (w' : World) : Prop := e = .returned (.tuple #[.bool b, errV f]) ∧ w = w'
theorem UsedP.mk' {b b' : Bool} {f f' : Int} {v : Value} {w : World} (h1 : b = b') (h2 : f = f') (hv : v = errV f') : UsedP b f w (.returned (.tuple #[.bool b', v])) w := ⟨by rw [h1, h2, hv], rfl⟩
/-- The cells of what is used. -/
theorem used_cell {w : World} {base n cap : Nat} {A : Option Addr} {u : List Bool} (h : w.ownsRow base 4 1 (.slice A n cap) n (boolsV u)) {i : Nat} (hi : i < u.length) (hn : u.length = n) :
    ∃ g, A = some ⟨g, 0, none⟩ ∧ g < w.heap.size ∧ w.cell? ⟨g, i, none⟩ = some (.bool u[i]) := by
  obtain ⟨A', c', he, _, _, h3⟩ := own_form h
  simp only [Value.slice.injEq, true_and] at he
  obtain ⟨rfl, rfl⟩ := he
  obtain ⟨g, rfl, hg, _⟩ := h3 (by omega)
  exact ⟨g, rfl, hg, (h.cellAt i (by omega)).trans (boolsV_at u i hi)⟩
set_option maxHeartbeats 1000000 in
theorem Used_any (base bp : Nat) (vl vu : Value) (l : List Dev) (u : List Bool) (x : Int) (w : World) (h : Dv.Is w base bp vl vu l u) : Calls Try.prog 30 #[.pointer (some ⟨bp, 0, none⟩), .int .i64 x] w (UsedP (usedF u x) (isF l.length x) w) := by
  have hc := h.blk.cells
  obtain ⟨A, c, rfl, q1, q2⟩ := h.rl.form
  obtain ⟨A2, c2, rfl, q3, q4, _⟩ := own_form h.ru
  have hn := h.rl.many
  have hlen := h.len
  unfold maxLen at q2 q4
  by_cases h1 : x < 0
  · have e1 := Lib.hid (usedF_bad (u := u) (x := x) (.inl h1))
    have e2 := Lib.hid (isF_bad (n := l.length) (x := x) (.inl h1))
    clear h hlen
    go_enter Try.func30, Try.ntmps30
    go_wp2_with fail
    go_ret2
    exact UsedP.mk' e1.out e2.out (by rw [errV_pos 1 (by omega)]; rfl)
  · by_cases h2 : (l.length : Int) ≤ x
    · have e1 := Lib.hid (usedF_bad (u := u) (x := x) (.inr (by omega)))
      have e2 := Lib.hid (isF_bad (n := l.length) (x := x) (.inr h2))
      clear h hlen
      go_enter Try.func30, Try.ntmps30
      go_wp2_with fail
      go_ret2
      exact UsedP.mk' e1.out e2.out (by rw [errV_pos 1 (by omega)]; rfl)
    · obtain ⟨k, rfl⟩ : ∃ k : Nat, x = k := ⟨x.toNat, by omega⟩
      obtain ⟨g, rfl, hg, hcell⟩ := used_cell h.ru (i := k) (by omega) hlen
      have e1 := Lib.hid (usedF_ok (u := u) (k := k) (by omega))
      have e2 := Lib.hid (isF_ok (n := l.length) (x := k) (by omega) (by omega))
      generalize u[k] = b at *
      clear h hlen
      go_enter Try.func30, Try.ntmps30
      go_wp2_with fail
      go_ret2
      exact UsedP.mk' e1.out e2.out (by rw [errV_0]; rfl)
theorem flatD_sick (l : List Dev) (i : Nat) (hi : i < l.length) (b : Bool) : (flatD l).set (i * 3 + 2) (.bool b) = flatD (l.set i { l[i] with sick := b }) := by
  induction l generalizing i with
  | nil => simp at hi
  | cons r l ih =>
    cases i with
    | zero => simp [flatD, Dev.cells]
    | succ i =>
      have := ih i (by simpa using hi)
      rw [show (i + 1) * 3 + 2 = i * 3 + 2 + 1 + 1 + 1 by omega]
      simp only [flatD, List.flatMap_cons, Dev.cells, List.cons_append, List.nil_append, List.set_cons_succ, List.getElem_cons_succ] at this ⊢
      rw [← this]
def sickL (l : List Dev) (x : Int) (on : Bool) : List Dev := if h : 0 ≤ x ∧ x.toNat < l.length then l.set x.toNat { l[x.toNat] with sick := on } else l
theorem sickL_bad {l : List Dev} {x : Int} {on : Bool} (h : x < 0 ∨ (l.length : Int) ≤ x) : sickL l x on = l := by
  unfold sickL
  rw [dif_neg (by omega)]
theorem sickL_ok {l : List Dev} {k : Nat} {on : Bool} (h : k < l.length) : sickL l k on = l.set k { l[k] with sick := on } := by
  unfold sickL
  rw [dif_pos (by omega)]
  rfl
theorem sickL_len (l : List Dev) (x : Int) (on : Bool) : (sickL l x on).length = l.length := by
  unfold sickL
  split
  · simp
  · rfl
theorem sick_row {w : World} {base g cap : Nat} {l : List Dev} (h : Row w base (.slice (some ⟨g, 0, none⟩) l.length cap) l) {k : Nat} (hk : k < l.length) (b : Bool) :
    Row (w.setCell ⟨g, k * 3 + 2, none⟩ (.bool b)) base (.slice (some ⟨g, 0, none⟩) l.length cap) (l.set k { l[k] with sick := b }) := by
  have hm : ∀ d ∈ l.set k { l[k] with sick := b }, ∃ d' ∈ l, d.kind = d'.kind ∧ d.node = d'.node := by
    intro d hd
    rcases List.mem_or_eq_of_mem_set hd with hd | rfl
    · exact ⟨d, hd, rfl, rfl⟩
    · exact ⟨l[k], List.getElem_mem _, rfl, rfl⟩
  refine ⟨?_, by simpa using h.many, fun d hd => ?_, fun d hd => ?_⟩
  · have := (h.row.stored (k * 3 + 2) (.bool b)).1
    rw [flatD_sick l k hk] at this
    simpa using this
  · obtain ⟨d', hd', e1, e2⟩ := hm d hd
    have := h.fine d' hd'
    unfold fineD at *
    rw [e1, e2]
    exact this
  · obtain ⟨d', hd', e1, e2⟩ := hm d hd
    rw [e1]
    exact h.size d' hd'
def SickP (base bp : Nat) (vl vu : Value) (l : List Dev) (u : List Bool) (x : Int) (on : Bool) (w : World) (e : Ending) (w' : World) : Prop :=
  e = .returned (errV (isF l.length x)) ∧ Dv.Is w' base bp vl vu (sickL l x on) u ∧ Kept (fun k => vl.ownBlock = some k) w w'
theorem SickP.bad {base bp : Nat} {vl vu : Value} {l : List Dev} {u : List Bool} {x : Int} {on : Bool} {w : World} {v : Value} (h : Dv.Is w base bp vl vu l u) (hx : x < 0 ∨ (l.length : Int) ≤ x) (hv : v = errV 1) : SickP base bp vl vu l u x on w (.returned v) w :=
  ⟨by rw [isF_bad hx, hv], by rw [sickL_bad hx]; exact h, Kept.refl _ _⟩
set_option maxHeartbeats 1000000 in
theorem Sick_any (base bp : Nat) (vl vu : Value) (l : List Dev) (u : List Bool) (x : Int) (on : Bool) (w : World) (h : Dv.Is w base bp vl vu l u) : Calls Try.prog 29 #[.pointer (some ⟨bp, 0, none⟩), .int .i64 x, .bool on] w (SickP base bp vl vu l u x on w) := by
  have hc := h.blk.cells
  have HIS := Lib.hid h
  obtain ⟨A, c, rfl, q1, q2⟩ := h.rl.form
  have hn := h.rl.many
  unfold maxLen at q2
  by_cases h1 : x < 0
  · clear h
    go_enter Try.func29, Try.ntmps29
    go_wp2_with fail
    go_ret
    exact SickP.bad HIS.out (.inl h1) (by rw [errV_pos 1 (by omega)]; rfl)
  · by_cases h2 : (l.length : Int) ≤ x
    · clear h
      go_enter Try.func29, Try.ntmps29
      go_wp2_with fail
      go_ret
      exact SickP.bad HIS.out (.inr h2) (by rw [errV_pos 1 (by omega)]; rfl)
    · obtain ⟨k, rfl⟩ : ∃ k : Nat, x = k := ⟨x.toNat, by omega⟩
      have hk : k < l.length := by omega
      obtain ⟨g, rfl, hg, c0, c1, c2⟩ := h.rl.cell hk
      have zf := h.rl.row.frozenAt
      clear h
      go_enter Try.func29, Try.ntmps29
      go_wp2_with fail
      go_ret
      have h := HIS.out
      have hkp : Kept (fun k => (Value.slice (some ⟨g, 0, none⟩) l.length c).ownBlock = some k) w (w.setCell ⟨g, k * 3 + 2, none⟩ (.bool on)) := Kept.setCell (S := fun k => (Value.slice (some ⟨g, 0, none⟩) l.length c).ownBlock = some k) (p := ⟨g, k * 3 + 2, none⟩) (Kept.refl _ w) (.inl (by simp [Value.ownBlock])) _
      refine ⟨by rw [isF_ok (by omega) (by omega), errV_0]; rfl, ?_, hkp⟩
      rw [sickL_ok hk]
      refine ⟨h.blk.kept hkp (fun hh => own_blk_ne h.rl.row h.blk (by decide) hh), ?_, ?_, by simpa using h.len⟩
      · simpa using sick_row h.rl hk on
      · have := own_kept h.ru hkp (fun q hq hh => by
          obtain ⟨_, _, _, _⟩ := own_form h.ru
          exact dv_own_ne h.ru h.rl.row (by decide) hq hh)
        simpa using this
end Go.Proofs.Yticmfflnenoplab
