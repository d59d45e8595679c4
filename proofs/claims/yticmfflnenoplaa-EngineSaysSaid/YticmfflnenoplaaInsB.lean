/- slices.Insert at a type of four cells, joined; slices.Delete. No statement is proved here. -/
import Derived.Test.YticmfflnenoplaaInsA
namespace Go.Proofs.Yticmfflnenoplaa
open Go.RowKit
theorem own_blk {w : World} {base : Nat} {e : TypeId} {size n g cap : Nat} {xs : List Value} (h : w.ownsRow base e size (.slice (some ⟨g, 0, none⟩) n cap) n xs) :
    ∃ cur, Blk w g e cur ∧ base ≤ g ∧ n ≤ cap ∧ cap ≤ maxLen ∧ cur.size = cap * size ∧ cur.toList.take (n * size) = xs := by
  rcases h.2 with ⟨h, _⟩ | ⟨g', cap', cur, he, hb, hh, h1, h2, h3, h4⟩
  · cases h
  · simp only [Value.slice.injEq, Option.some.injEq, Addr.mk.injEq, and_true, true_and] at he
    obtain ⟨rfl, rfl⟩ := he
    exact ⟨cur, hh, hb, h1, h2, h3, h4⟩
/-- slices.Insert of one element. -/
theorem Insert_own (base n i : Nat) (v : Value) (xs vs : List Value) (vb : Nat) (w : World) (hown : w.ownsRow base 117 4 v n xs) (hb : base ≤ w.heap.size) (hi : i ≤ n) (hv : Blk w vb 117 vs.toArray) (hne : v.ownBlock ≠ some vb) (hl : vs.length = 4) (h1 : ∀ u ∈ vs, u.oneCell' = true) (h1x : ∀ u ∈ xs, u.oneCell' = true) (hn : n ≤ 100000) :
    Calls Try.prog 132 #[v, .int .i64 i, .slice (some ⟨vb, 0, none⟩) 1 1] w (InsW base v (n + 1) (xs.take (i * 4) ++ (vs ++ xs.drop (i * 4))) w) := by
  have hxl := hown.1
  by_cases he : i = n
  · subst he
    have := ins_end base i v xs vs vb w hown hb hv hl h1 hn
    rwa [List.take_of_length_le (by omega), List.drop_eq_nil_of_le (by omega), List.append_nil]
  · obtain ⟨A, cap, rfl, q1, q2, q3⟩ := own_form hown
    obtain ⟨g, rfl, _, _⟩ := q3 (by omega)
    obtain ⟨cur, hg, hbg, _, _, hs, ht⟩ := own_blk hown
    subst ht
    unfold maxLen at q2
    by_cases hc : n + 1 ≤ cap
    · exact ins_shift base n cap i g vb cur vs w hg hbg hc (by omega) hs (by omega) hv (fun h => hne (by rw [h]; rfl)) hl h1 h1x
    · exact ins_grow base n cap i g vb cur vs w hg hb q1 (by omega) hn hs (by omega) hv hl h1 h1x
theorem setCells_blk {g : Nat} {T : TypeId} : ∀ (vs : List Value) (o : Nat) (cur : Array Value) (w : World), Blk w g T cur → o + vs.length ≤ cur.size → Blk (w.setCells g o vs) g T (cur.toList.take o ++ vs ++ cur.toList.drop (o + vs.length)).toArray
  | [], o, cur, w, h, _ => by
    show Blk w g T _
    refine h.cast ?_
    simp
  | v :: r, o, cur, w, h, hl => by
    have ih := setCells_blk r (o + 1) (cur.setIfInBounds o v) (w.setCell ⟨g, o, none⟩ v) (h.set_ o v) (by simp at hl ⊢; omega)
    have e := list_seg_step cur.toList o v r (by simp at hl ⊢; omega)
    refine Blk.cast ih ?_
    simpa [Array.toList_setIfInBounds, Nat.add_assoc, Nat.add_comm 1] using e
theorem setCells_grown (g : Nat) : ∀ (vs : List Value) (o : Nat) (w : World), w.grownBy (w.setCells g o vs) (some g)
  | [], _, _ => ⟨rfl, rfl, rfl, Nat.le_refl _, fun _ _ _ => rfl⟩
  | v :: r, o, w => by
    have h := setCells_grown g r (o + 1) (w.setCell ⟨g, o, none⟩ v)
    have hz : (w.setCell ⟨g, o, none⟩ v).heap.size = w.heap.size := by simp [World.setCell]
    have h3 := h.size
    rw [hz] at h3
    refine ⟨h.os, h.tape, h.output, h3, fun k hk hne => ?_⟩
    refine (h.block k (by rw [hz]; exact hk) hne).trans ?_
    exact Below.heap_setCell w ⟨g, o, none⟩ v k (fun e => hne (by rw [e]))
theorem del_take (L : List Value) (Z : List Value) (i m : Nat) (hL : (i + 1 + m) * 4 ≤ L.length) :
    (((L.take (i * 4) ++ (L.take ((i + 1 + m) * 4)).drop ((i + 1) * 4) ++ L.drop (i * 4 + ((L.take ((i + 1 + m) * 4)).drop ((i + 1) * 4)).length)).toArray.toList.take ((i + m) * 4) ++ Z ++ (L.take (i * 4) ++ (L.take ((i + 1 + m) * 4)).drop ((i + 1) * 4) ++ L.drop (i * 4 + ((L.take ((i + 1 + m) * 4)).drop ((i + 1) * 4)).length)).toArray.toList.drop ((i + m) * 4 + 4)).toArray).toList.take ((i + m) * 4) = (L.take ((i + 1 + m) * 4)).take (i * 4) ++ (L.take ((i + 1 + m) * 4)).drop ((i + 1) * 4) := by
  simp only []
  have hM : ((L.take ((i + 1 + m) * 4)).drop ((i + 1) * 4)).length = m * 4 := by simp; omega
  generalize (L.take ((i + 1 + m) * 4)).drop ((i + 1) * 4) = M at *
  generalize L.drop (i * 4 + M.length) = D
  have e1 : (L.take (i * 4) ++ M ++ D).take ((i + m) * 4) = L.take (i * 4) ++ M := List.take_left' (by simp; omega)
  rw [e1]
  generalize (L.take (i * 4) ++ M ++ D).drop ((i + m) * 4 + 4) = D2
  rw [List.append_assoc, List.take_take, show min (i * 4) ((i + 1 + m) * 4) = i * 4 by omega]
  exact List.take_left' (by simp; omega)
set_option maxRecDepth 100000 in
set_option maxHeartbeats 1000000 in
/-- slices.Delete of one element. -/
theorem Delete_own (base i m : Nat) (v : Value) (xs : List Value) (w : World) (hown : w.ownsRow base 117 4 v (i + 1 + m) xs) (h1x : ∀ u ∈ xs, u.oneCell' = true) (hn : i + 1 + m ≤ 100000) :
    Calls Try.prog 134 #[v, .int .i64 i, .int .i64 ((i : Int) + 1)] w (InsW base v (i + m) (xs.take (i * 4) ++ xs.drop ((i + 1) * 4)) w) := by
  have hxl := hown.1
  obtain ⟨A, cap, rfl, q1, q2, q3⟩ := own_form hown
  obtain ⟨g, rfl, _, _⟩ := q3 (by omega)
  obtain ⟨cur, hg, hbg, _, _, hs, ht⟩ := own_blk hown
  unfold maxLen at q2
  clear hown q3
  have hbe : ((i : Int) == (i : Int) + 1) = false := by rw [beq_eq_false_iff_ne]; omega
  obtain ⟨i0, hi0, hz0, hzs, hzb⟩ := info_parts runT.hi
  obtain ⟨news, hnews⟩ : ∃ news, news = xs.drop ((i + 1) * 4) := ⟨_, rfl⟩
  have hnl : news.length = m * 4 := by rw [hnews]; simp; omega
  have hcs : ∀ (j : Nat) (u : Value), news[j]? = some u → cur[(i + 1) * 4 + j]? = some u := by
    intro j u hu
    rw [hnews, ← ht, List.getElem?_drop, List.getElem?_take] at hu
    split at hu
    · simpa using hu
    · cases hu
  obtain ⟨A, hA, hsrc⟩ : ∃ A : Addr, (if cap = i + 1 then some (⟨g, 0, none⟩ : Addr) else some ⟨g, (i + 1) * 4, none⟩) = some A ∧ Hid (∀ j u, news[j]? = some u → w.drew.cell? (A.add j) = some u) := by
    by_cases h : cap = i + 1
    · refine ⟨⟨g, 0, none⟩, by simp [h], fun j u hu => ?_⟩
      have h0 : news.length = 0 := by rw [hnl]; omega
      rw [List.length_eq_zero_iff.1 h0] at hu
      simp at hu
    · refine ⟨⟨g, (i + 1) * 4, none⟩, by simp [h], fun j u hu => ?_⟩
      rw [Addr.add_lit]
      exact (hg.drew.cell _).trans (hcs j u hu)
  have s1 := Lib.hid hnl
  have s2 : Hid (∀ u ∈ news, u.oneCell' = true) := Lib.hid fun u hu => h1x u (List.mem_of_mem_drop (by rw [← hnews]; exact hu))
  have s3 : Hid (∀ t, t < news.length → (w.drew.cell? ⟨g, 0 + i * 4 + t, none⟩).isSome = true ∧ w.drew.frozen? ⟨g, 0 + i * 4 + t, none⟩ = false) := Lib.hid (by
    intro t ht'
    rw [hnl] at ht'
    rw [Nat.zero_add]
    exact ⟨by rw [hg.drew.cell, Array.getElem?_eq_getElem (by omega)]; rfl, hg.drew.frozen _⟩)
  obtain ⟨W1, hW1⟩ : ∃ W1, W1 = w.drew.setCells g (0 + i * 4) news := ⟨_, rfl⟩
  obtain ⟨R1, hR1⟩ : ∃ R1, R1 = (cur.toList.take (i * 4) ++ news ++ cur.toList.drop (i * 4 + news.length)).toArray := ⟨_, rfl⟩
  have hg1 : Blk W1 g 117 R1 := by
    rw [hW1, hR1, Nat.zero_add]
    exact setCells_blk news (i * 4) cur w.drew hg.drew (by omega)
  have hR1l : R1.size = cap * 4 := by rw [hR1]; simp; omega
  obtain ⟨Z, hZ⟩ : ∃ Z, Z = (Builtin.zeroCells zRun.cells 1).toList := ⟨_, rfl⟩
  have hZl : Z.length = 4 := by
    rw [hZ, Array.length_toList, zeroCells_len]
    rfl
  obtain ⟨R2, hR2⟩ : ∃ R2, R2 = (R1.toList.take ((i + m) * 4) ++ Z ++ R1.toList.drop ((i + m) * 4 + 4)).toArray := ⟨_, rfl⟩
  have hR2l : R2.size = cap * 4 := by rw [hR2]; simp; omega
  have hR2t : R2.toList.take ((i + m) * 4) = xs.take (i * 4) ++ news := by
    rw [hR2, hR1, hnews, ← ht]
    exact del_take cur.toList Z i m (by simp; omega)
  have hcl : ∀ ty cp, (Builtin.clear_ #[114] ty #[.slice (some ⟨g, (i + m) * 4, none⟩) 1 cp]).run Try.prog W1 = .ok (.tuple #[]) (W1.setRow g R2) := by
    intro ty cp
    have := run_clearK (P := Try.prog) W1 114 117 ty zRun Try.underlying114 Try.zeroValue117 (by decide) g ((i + m) * 4) 1 cp (by omega) R1 117 hg1 (by show (i + m) * 4 + 1 * 4 ≤ _; omega)
    rw [← hZ, show (i + m) * 4 + 1 * zRun.cells.size = (i + m) * 4 + 4 from rfl, ← hR2] at this
    exact this
  have hfin : InsW base (.slice (some ⟨g, 0, none⟩) (i + 1 + m) cap) (i + m) (xs.take (i * 4) ++ news) w (.returned (.slice (some ⟨g, 0, none⟩) (i + m) cap)) (W1.setRow g R2) := by
    refine ⟨g, cap, rfl, ?_, ?_, .inl rfl, ?_⟩
    · exact own_of_blk (setRow_heap W1 g R1 R2 _ _ hg1) hbg (by omega) (by unfold maxLen; omega) hR2l hR2t (by simp; omega)
    · refine grown_setRow (g := g) ?_ (.inl rfl) R2
      rw [hW1]
      have := setCells_grown g news (0 + i * 4) w.drew
      exact ⟨this.os, this.tape, this.output, this.size, this.block⟩
    · have := hg1.lt
      simpa [World.setRow] using this
  have HF := Lib.hid hfin
  have hW := Lib.hid hW1
  have hb0 : (0 : Int) ≤ (i : Int) + 1 := by omega
  have hb1 : (i : Int) + 1 ≤ (i : Int) + 1 + (m : Int) := by omega
  have hsub : i + 1 + m - (i + m) = 1 := by omega
  have hic : i ≤ cap := by omega
  have hjc : i + 1 ≤ cap := by omega
  rw [← hnews]
  clear hfin hW1 hg1 hg hs ht hxl hnl hcs hnews hR1 hR1l hR2 hR2l hR2t hZ hZl h1x hbg
  by_cases hcap : cap = i + 1
  · obtain rfl : (⟨g, 0, none⟩ : Addr) = A := by rw [if_pos hcap] at hA; exact Option.some.inj hA
    clear hA
    obtain rfl : m = 0 := by omega
    subst hcap
    have hi1 : (i : Int) ≤ (i : Int) + 1 := by omega
    simp only [Nat.add_zero] at hcl
    have hsub1 : i + 1 - i = 1 := by omega
    go_enter Try.func134, Try.ntmps134
    go_wp2_with fail
    go_region_law (refine step_append_room rfl (.tmp 22) (.tmp 25) 114 rfl 117 i0 4 Try.underlying114 hi0 hzs g 0 i (i + 1) (by simp [Act.eval, Act.put]) ⟨g, 0, none⟩ 0 0 news (by simp [Act.eval, Act.put]) s1.out hsrc.out s2.out (by omega) s3.out ?_; rw [← hW.out])
    go_wp2_with fail
    all_goals
      go_ret
      exact HF.out
  · obtain rfl : (⟨g, (i + 1) * 4, none⟩ : Addr) = A := by rw [if_neg hcap] at hA; exact Option.some.inj hA
    clear hA
    go_enter Try.func134, Try.ntmps134
    go_wp2_with fail
    go_region_law (refine step_append_room rfl (.tmp 22) (.tmp 25) 114 rfl 117 i0 4 Try.underlying114 hi0 hzs g 0 i cap (by simp [Act.eval, Act.put]) ⟨g, (i + 1) * 4, none⟩ m (cap - (i + 1)) news (by simp [Act.eval, Act.put]) s1.out hsrc.out s2.out (by omega) s3.out ?_; rw [← hW.out])
    go_wp2_with fail
    all_goals
      go_ret
      exact HF.out
end Go.Proofs.Yticmfflnenoplaa
