/- slices.Insert at a type of four cells: its contract. No statement is proved here. -/
import Derived.Test.YticmfflnenoplaaRow
import Derived.Test.YticmfflnenoplaaComm
namespace Go.Proofs.Yticmfflnenoplaa
open Go.RowKit
def zRun : Value := .agg #[.string ⟨#[]⟩, .string ⟨#[]⟩, .int .u64 0, .slice none 0 0]
theorem runT : ElemT Try.prog 114 117 zRun 4 64 := ⟨Try.underlying114, by kernel_rfl, rfl, by omega⟩
/-- A row of the call's own, one element more (or less): where it lies, what was written. -/
def InsW (base : Nat) (v : Value) (n : Nat) (zs : List Value) (w : World) (e : Ending) (w' : World) : Prop :=
  ∃ g cap, e = .returned (.slice (some ⟨g, 0, none⟩) n cap) ∧ w'.ownsRow base 117 4 (.slice (some ⟨g, 0, none⟩) n cap) n zs ∧ w.grownBy w' v.ownBlock ∧ (v.ownBlock = some g ∨ w.heap.size ≤ g) ∧ g < w'.heap.size
set_option maxRecDepth 100000 in
set_option maxHeartbeats 1000000 in
theorem ins_end (base n : Nat) (v : Value) (xs vs : List Value) (vb : Nat) (w : World) (hown : w.ownsRow base 117 4 v n xs) (hb : base ≤ w.heap.size) (hv : Blk w vb 117 vs.toArray) (hl : vs.length = 4) (h1 : ∀ u ∈ vs, u.oneCell' = true) (hn : n ≤ 100000) :
    Calls Try.prog 132 #[v, .int .i64 n, .slice (some ⟨vb, 0, none⟩) 1 1] w (InsW base v (n + 1) (xs ++ vs) w) := by
  obtain ⟨A, cap, rfl, q1, q2, q3⟩ := own_form hown
  unfold maxLen at q2
  have HN := Lib.hid (fun j u (hu : vs[j]? = some u) => World.news_of_block hv j u (by simpa using hu))
  have hown0 := hown
  have HO := Lib.hid hown
  have HL := Lib.hid hl
  have H1 := Lib.hid h1
  have hnl : ((n : Int) == (n : Int)) = true := by simp
  clear hown hl h1 hv
  have HA : Hid (n = 0 ∨ ∃ g, A = some ⟨g, 0, none⟩) := Lib.hid (by
    rcases Nat.eq_zero_or_pos n with h | h
    · exact .inl h
    · obtain ⟨g, hg, _⟩ := q3 h
      exact .inr ⟨g, hg⟩)
  clear q3
  have hs4 : Hid (vs.length = 1 * 4) := Lib.hid (by rw [HL.out])
  cases A with
  | none =>
    obtain rfl : n = 0 := by
      rcases HA.out with h | ⟨g, h⟩
      · exact h
      · cases h
    clear HA hown0
    go_enter Try.func132, Try.ntmps132
    go_wp2_with (at_builtin; refine wpList_app _ runT rfl (.tmp 23) (.tmp 24) rfl base (.slice none 0 cap) 0 xs rfl HO.out ⟨vb, 0, none⟩ 1 1 vs rfl hs4.out HN.out H1.out (by omega) (by unfold maxLen; omega) (by omega) hb ?_; intro g c w1 ho hg hat hlt)
    all_goals
      go_ret
      exact ⟨g, c, rfl, ho, hg, by rcases hat with h | h; exact .inl h; exact .inr (by omega), hlt⟩
  | some a =>
    obtain ⟨b, rfl⟩ : ∃ b, a = ⟨b, 0, none⟩ := by
      rcases hown0.2 with ⟨h, _⟩ | ⟨g, c, cur, h, _⟩
      · cases h
      · simp only [Value.slice.injEq, Option.some.injEq] at h
        exact ⟨g, h.1⟩
    clear hown0 HA
    by_cases hcn : cap = n
    all_goals
      go_enter Try.func132, Try.ntmps132
      go_wp2_with (at_builtin; refine wpList_app _ runT rfl (.tmp 23) (.tmp 24) rfl base (.slice (some ⟨b, 0, none⟩) n cap) n xs rfl HO.out ⟨vb, 0, none⟩ 1 1 vs rfl hs4.out HN.out H1.out (by omega) (by unfold maxLen; omega) (by omega) hb ?_; intro g c w1 ho hg hat hlt)
      all_goals
        go_ret
        exact ⟨g, c, rfl, ho, hg, by rcases hat with h | h; exact .inl h; exact .inr (by omega), hlt⟩
theorem shift_take (L C vs : List Value) (i n : Nat) (hi : i < n) (hC : C.length = (n - i) * 4) (hv : vs.length = 4) (hL : (n + 1) * 4 ≤ L.length) :
    (((L.take ((i + 1) * 4) ++ C ++ L.drop ((i + 1) * 4 + C.length)).toArray.toList.take (i * 4) ++ vs ++ (L.take ((i + 1) * 4) ++ C ++ L.drop ((i + 1) * 4 + C.length)).toArray.toList.drop (i * 4 + vs.length)).toArray).toList.take ((n + 1) * 4) = (L.take (n * 4)).take (i * 4) ++ (vs ++ C) := by
  simp only []
  generalize L.drop ((i + 1) * 4 + C.length) = D
  have e1 : (L.take ((i + 1) * 4) ++ C ++ D).take (i * 4) = L.take (i * 4) := by
    rw [List.append_assoc, List.take_append_of_le_length (by simp; omega), List.take_take]
    congr 1
    omega
  have e2 : (L.take ((i + 1) * 4) ++ C ++ D).drop (i * 4 + vs.length) = C ++ D := by
    rw [List.append_assoc, show i * 4 + vs.length = (L.take ((i + 1) * 4)).length by simp; omega, List.drop_left]
  rw [e1, e2, List.take_take, show min (i * 4) (n * 4) = i * 4 by omega]
  have e3 : L.take (i * 4) ++ vs ++ (C ++ D) = (L.take (i * 4) ++ (vs ++ C)) ++ D := by simp
  rw [e3]
  exact List.take_left' (by simp; omega)
theorem ov_run (w : World) (vb g o lb cb : Nat) (va ca : Array Value) (T : TypeId) (hv : Blk w vb T va) (hg : Blk w g T ca) (hne : vb ≠ g) (hc : ca.size ≠ 0) :
    (callFunc 150 #[.slice (some ⟨vb, 0, none⟩) 1 1, .slice (some ⟨g, o, none⟩) lb cb]).run Try.prog w = .ok (.value (.bool false)) w := by
  rw [run_callFunc_extern Try.func150 (by kernel_rfl) (by kernel_rfl) (by kernel_rfl) (e := Extern.SlicesOverlaps.overlaps #[114, 114] #[4]) (by kernel_rfl)]
  have := Lib.run_overlaps_apart (P := Try.prog) w 114 4 117 Try.underlying114 4 Try.sizeOf117 ⟨vb, 0, none⟩ ⟨g, o, none⟩ 1 1 lb cb hne T T va.size ca.size (by unfold Blk at hv; simp [World.shape?, hv]) (by unfold Blk at hg; simp [World.shape?, hg]) hc (hv.frozen _) (hv.frozen _)
  rw [this]
  rfl
set_option maxRecDepth 100000 in
set_option maxHeartbeats 1000000 in
theorem ins_shift (base n cap i g vb : Nat) (cur : Array Value) (vs : List Value) (w : World) (hg : Blk w g 117 cur) (hb : base ≤ g) (hr : n + 1 ≤ cap) (hc : cap ≤ 9223372036854775807) (hs : cur.size = cap * 4) (hi : i < n) (hv : Blk w vb 117 vs.toArray) (hne : vb ≠ g) (hl : vs.length = 4) (h1 : ∀ u ∈ vs, u.oneCell' = true) (h1c : ∀ u ∈ cur.toList.take (n * 4), u.oneCell' = true) :
    Calls Try.prog 132 #[.slice (some ⟨g, 0, none⟩) n cap, .int .i64 i, .slice (some ⟨vb, 0, none⟩) 1 1] w (InsW base (.slice (some ⟨g, 0, none⟩) n cap) (n + 1) ((cur.toList.take (n * 4)).take (i * 4) ++ (vs ++ (cur.toList.take (n * 4)).drop (i * 4))) w) := by
  have hov : ∀ o lb cb, (callFunc 150 #[.slice (some ⟨vb, 0, none⟩) 1 1, .slice (some ⟨g, o, none⟩) lb cb]).run Try.prog w = .ok (.value (.bool false)) w := fun o lb cb => ov_run w vb g o lb cb _ _ _ hv hg hne (by omega)
  have hin : ((i : Int) == (n : Int)) = false := by rw [beq_eq_false_iff_ne]; omega
  have hw1 : IntKind.i64.wrap ((i : Int) + 1) = (i : Int) + 1 := by rw [IntKind.wrap_i64]; omega
  have htn : ((i : Int) + 1).toNat = i + 1 := by omega
  have hb1 : (0 : Int) ≤ (i : Int) + 1 := by omega
  have hb2 : i ≤ n := by omega
  have hb3 : (i : Int) ≤ (n : Int) + 1 := by omega
  have hb4 : ¬ (cap = i) := by omega
  have hb5 : ¬ (cap = i + 1) := by omega
  obtain ⟨C, hC⟩ : ∃ C, C = (cur.toList.take (n * 4)).drop (i * 4) := ⟨_, rfl⟩
  have hCl : C.length = (n - i) * 4 := by rw [hC]; simp; omega
  have hC1 : ∀ u ∈ C, u.oneCell' = true := fun u hu => h1c u (List.mem_of_mem_drop (by rw [← hC]; exact hu))
  have hCs : ∀ j u, C[j]? = some u → cur[i * 4 + j]? = some u := by
    intro j u hu
    rw [hC, List.getElem?_drop, List.getElem?_take] at hu
    split at hu
    · simpa using hu
    · cases hu
  obtain ⟨R1, hR1⟩ : ∃ R1, R1 = (cur.toList.take ((i + 1) * 4) ++ C ++ cur.toList.drop ((i + 1) * 4 + C.length)).toArray := ⟨_, rfl⟩
  have hR1l : R1.size = cap * 4 := by rw [hR1]; simp; omega
  obtain ⟨R2, hR2⟩ : ∃ R2, R2 = (R1.toList.take (i * 4) ++ vs ++ R1.toList.drop (i * 4 + vs.length)).toArray := ⟨_, rfl⟩
  have hR2l : R2.size = cap * 4 := by rw [hR2]; simp; omega
  have hR2t : R2.toList.take ((n + 1) * 4) = (cur.toList.take (n * 4)).take (i * 4) ++ (vs ++ C) := by
    rw [hR2, hR1]
    exact shift_take cur.toList C vs i n hi hCl hl (by simp; omega)
  have hsz : (Try.prog.info? 117).map (·.size) = some 4 := by kernel_rfl
  have hcp1 : ∀ ty dc sc, (Builtin.copy_ #[114, 114] ty #[.slice (some ⟨g, (i + 1) * 4, none⟩) (n - i) dc, .slice (some ⟨g, i * 4, none⟩) (n + 1 - i) sc]).run Try.prog w.drew = .ok (goInt ((n - i : Nat) : Int)) (w.drew.setRow g R1) := by
    intro ty dc sc
    have hm : Nat.min (n + 1 - i) (n - i) = n - i := by simp only [Nat.min_def]; split <;> omega
    have := run_copyK (P := Try.prog) w.drew 114 114 ty 117 4 g ((i + 1) * 4) (n - i) dc ⟨g, i * 4, none⟩ (n + 1 - i) sc cur 117 C Try.underlying114 hsz hg (by rw [hm]; exact hCl)
      (fun j u hu => by rw [Addr.add_lit]; exact (hg.drew.cell _).trans (hCs j u hu)) (by omega) hC1
    rw [hm, ← hR1] at this
    exact this
  have hg1 : Blk (w.drew.setRow g R1) g 117 R1 := setRow_heap w.drew g cur R1 _ _ hg
  have hv1 : Blk (w.drew.setRow g R1) vb 117 vs.toArray := by
    unfold Blk
    rw [setRow_other w.drew g vb R1 hne]
    exact hv
  obtain ⟨W1, hW1⟩ : ∃ W1, W1 = w.drew.setRow g R1 := ⟨_, rfl⟩
  rw [← hW1] at hcp1 hg1 hv1
  have hcp2 : ∀ ty dc, (Builtin.copy_ #[114, 114] ty #[.slice (some ⟨g, i * 4, none⟩) (n + 1 - i) dc, .slice (some ⟨vb, 0, none⟩) 1 1]).run Try.prog W1 = .ok (goInt 1) (W1.setRow g R2) := by
    intro ty dc
    have hm : Nat.min 1 (n + 1 - i) = 1 := by simp only [Nat.min_def]; split <;> omega
    have := run_copyK (P := Try.prog) W1 114 114 ty 117 4 g (i * 4) (n + 1 - i) dc ⟨vb, 0, none⟩ 1 1 R1 117 vs Try.underlying114 hsz hg1 (by rw [hm, hl])
      (fun j u hu => by rw [Addr.add_lit, Nat.zero_add]; rw [hv1.cell]; simpa using hu) (by omega) h1
    rw [hm, ← hR2] at this
    exact this
  have hfin : InsW base (.slice (some ⟨g, 0, none⟩) n cap) (n + 1) ((cur.toList.take (n * 4)).take (i * 4) ++ (vs ++ C)) w (.returned (.slice (some ⟨g, 0, none⟩) (n + 1) cap)) (W1.setRow g R2) := by
    refine ⟨g, cap, rfl, ?_, ?_, .inl rfl, ?_⟩
    · exact own_of_blk (setRow_heap W1 g R1 R2 _ _ hg1) hb hr (by unfold maxLen; omega) hR2l hR2t (by simp; omega)
    · refine grown_setRow (g := g) ?_ (.inl rfl) R2
      rw [hW1]
      have h0 : w.grownBy w.drew (some g) := ⟨rfl, rfl, rfl, Nat.le_refl _, fun _ _ _ => rfl⟩
      exact grown_setRow (g := g) h0 (.inl rfl) R1
    · rw [hW1]
      simpa [World.setRow] using hg.lt
  have HF := Lib.hid hfin
  rw [← hC]
  clear hfin hg hv hs hl h1 h1c hne hg1 hv1 hW1 hR2t hR2l hR2 hR1l hR1 hCs hC1 hCl hC
  go_enter Try.func132, Try.ntmps132
  go_wp2_with (simp only [hov])
  go_region_law (refine step_copy_runI rfl _ _ 114 114 rfl _ _ (by simp [Act.eval, Act.put]) (by simp [Act.eval, Act.put]) (hcp1 _ _ _) ?_)
  go_wp2_with (at_builtin; refine wpList_copy_runI _ rfl _ _ 114 114 rfl _ _ rfl rfl (hcp2 _ _) ?_)
  go_ret
  exact HF.out
theorem grow_take (A Z C vs : List Value) (i n : Nat) (hi : i < n) (hA : A.length = i * 4) (hC : C.length = (n - i) * 4) (hv : vs.length = 4) :
    ((((A ++ Z).take (i * 4) ++ vs ++ (A ++ Z).drop (i * 4 + vs.length)).toArray.toList.take ((i + 1) * 4) ++ C ++ ((A ++ Z).take (i * 4) ++ vs ++ (A ++ Z).drop (i * 4 + vs.length)).toArray.toList.drop ((i + 1) * 4 + C.length)).toArray).toList.take ((n + 1) * 4) = A ++ (vs ++ C) := by
  simp only []
  have e1 : (A ++ Z).take (i * 4) = A := List.take_left' hA
  rw [e1]
  generalize (A ++ Z).drop (i * 4 + vs.length) = D
  have e2 : (A ++ vs ++ D).take ((i + 1) * 4) = A ++ vs := List.take_left' (by simp; omega)
  rw [e2]
  generalize (A ++ vs ++ D).drop ((i + 1) * 4 + C.length) = D2
  rw [show A ++ vs ++ C ++ D2 = (A ++ (vs ++ C)) ++ D2 by simp]
  exact List.take_left' (by simp; omega)
set_option maxRecDepth 100000 in
set_option maxHeartbeats 1000000 in
theorem ins_grow (base n cap i g vb : Nat) (cur : Array Value) (vs : List Value) (w : World) (hg : Blk w g 117 cur) (hb : base ≤ w.heap.size) (hq : n ≤ cap) (hr : cap < n + 1) (hc : n ≤ 100000) (hs : cur.size = cap * 4) (hi : i < n) (hv : Blk w vb 117 vs.toArray) (hl : vs.length = 4) (h1 : ∀ u ∈ vs, u.oneCell' = true) (h1c : ∀ u ∈ cur.toList.take (n * 4), u.oneCell' = true) :
    Calls Try.prog 132 #[.slice (some ⟨g, 0, none⟩) n cap, .int .i64 i, .slice (some ⟨vb, 0, none⟩) 1 1] w (InsW base (.slice (some ⟨g, 0, none⟩) n cap) (n + 1) ((cur.toList.take (n * 4)).take (i * 4) ++ (vs ++ (cur.toList.take (n * 4)).drop (i * 4))) w) := by
  have hin : ((i : Int) == (n : Int)) = false := by rw [beq_eq_false_iff_ne]; omega
  have hw1 : IntKind.i64.wrap ((i : Int) + 1) = (i : Int) + 1 := by rw [IntKind.wrap_i64]; omega
  have htn : ((i : Int) + 1).toNat = i + 1 := by omega
  have hb1 : (0 : Int) ≤ (i : Int) + 1 := by omega
  have hb2 : i ≤ n := by omega
  have hb3 : (i : Int) ≤ (n : Int) + 1 := by omega
  have hb4 : ¬ (cap = i) := by omega
  have hz3 : (cap : Int) < (n : Int) + 1 := by omega
  obtain ⟨i0, hi0, hz0, hzs, hzb⟩ := info_parts runT.hi
  obtain ⟨A, hA⟩ : ∃ A, A = (cur.toList.take (n * 4)).take (i * 4) := ⟨_, rfl⟩
  obtain ⟨C, hC⟩ : ∃ C, C = (cur.toList.take (n * 4)).drop (i * 4) := ⟨_, rfl⟩
  have hAl : A.length = i * 4 := by rw [hA]; simp; omega
  have hCl : C.length = (n - i) * 4 := by rw [hC]; simp; omega
  have hC1 : ∀ u ∈ C, u.oneCell' = true := fun u hu => h1c u (List.mem_of_mem_drop (by rw [← hC]; exact hu))
  have hCs : ∀ j u, C[j]? = some u → cur[i * 4 + j]? = some u := by
    intro j u hu
    rw [hC, List.getElem?_drop, List.getElem?_take] at hu
    split at hu
    · simpa using hu
    · cases hu
  have hAs : ∀ (j : Nat) (u : Value), A[j]? = some u → cur[j]? = some u := by
    intro j u hu
    rw [hA, List.getElem?_take] at hu
    split at hu
    · rw [List.getElem?_take] at hu
      split at hu
      · simpa using hu
      · cases hu
    · cases hu
  have hold : (Builtin.firstCells i0.size i (.slice (some ⟨g, 0, none⟩) i cap)).run Try.prog w.drew = .ok A.toArray w.drew := by
    rw [hzs]
    exact run_firstCells_some (P := Try.prog) w.drew 4 i ⟨g, 0, none⟩ i cap A hAl (fun j v hj => by
      rw [Addr.add_lit, Nat.zero_add]
      exact (hg.drew.cell _).trans (hAs j v hj))
  obtain ⟨G, hG⟩ : ∃ G, G = grownCap w (n + 1) cap 117 := ⟨_, rfl⟩
  obtain ⟨Z, hZ⟩ : ∃ Z : Array Value, Z = Builtin.zeroCells zRun.cells (n + 1 - i) ++ Builtin.zeroCells zRun.cells (G - (n + 1)) := ⟨_, rfl⟩
  have hGn : n + 1 ≤ G := by rw [hG]; exact grownCap_ge w _ _ _
  have hG63 : G ≤ 9223372036854775807 := by
    have := grownCap_le_maxLen w (n + 1) cap 117 (by unfold maxLen; omega)
    rw [← hG] at this
    unfold maxLen at this
    omega
  have hzc : zRun.cells.size = 4 := rfl
  have hZl : Z.size = (G - i) * 4 := by
    rw [hZ, Array.size_append, zeroCells_len, zeroCells_len, hzc]
    omega
  have hrz : ∀ ty, (Builtin.append_ #[114, 3] ty #[.slice (some ⟨g, 0, none⟩) i cap, .int .i64 ((n : Int) + 1 - (i : Int))]).run Try.prog w =
      .ok (.slice (some ⟨w.heap.size, 0, none⟩) (n + 1) G) (w.drew.alloc (.cells (A.toArray ++ Z) 117)) := fun ty => by
    have h := Lib.run_append_grow_zeros (P := Try.prog) w 114 3 ty 117 i0 _ .i64 .i64 Try.underlying114 Try.underlying3 hi0 hz0 (some ⟨g, 0, none⟩) i cap A hold (n + 1 - i) (by omega) (by omega) (by omega) (by omega) (by rw [hzb]; omega) (by rw [hzb, show i + (n + 1 - i) = n + 1 by omega]; exact growslice_fits (by omega) (by omega))
    rw [show i + (n + 1 - i) = n + 1 by omega, ← hG] at h
    rw [show (n : Int) + 1 - (i : Int) = ((n + 1 - i : Nat) : Int) by omega, hZ, ← Array.append_assoc]
    exact h
  obtain ⟨W1, hW1⟩ : ∃ W1, W1 = w.drew.alloc (.cells (A.toArray ++ Z) 117) := ⟨_, rfl⟩
  have hgw : w.grownBy W1 none := by
    rw [hW1]
    exact ⟨rfl, rfl, rfl, by simp [World.alloc], fun k hk _ => Below.heap_alloc w.drew _ k hk⟩
  have hh1 : Blk W1 w.heap.size 117 (A.toArray ++ Z) := by rw [hW1]; exact Blk.new w.drew _ _
  have hg1 : Blk W1 g 117 cur := hg.grown hgw (by simp)
  have hv1 : Blk W1 vb 117 vs.toArray := hv.grown hgw (by simp)
  rw [← hW1] at hrz
  have hhw : w.heap.size < W1.heap.size := hh1.lt
  have hgl := hg.lt
  have hvl := hv.lt
  obtain ⟨h, hh⟩ : ∃ h, h = w.heap.size := ⟨_, rfl⟩
  rw [← hh] at hrz hh1 hgl hvl hhw
  have hsz : (Try.prog.info? 117).map (·.size) = some 4 := by kernel_rfl
  obtain ⟨R1, hR1⟩ : ∃ R1, R1 = ((A.toArray ++ Z).toList.take (i * 4) ++ vs ++ (A.toArray ++ Z).toList.drop (i * 4 + vs.length)).toArray := ⟨_, rfl⟩
  have hR1l : R1.size = G * 4 := by rw [hR1]; simp; omega
  obtain ⟨R2, hR2⟩ : ∃ R2, R2 = (R1.toList.take ((i + 1) * 4) ++ C ++ R1.toList.drop ((i + 1) * 4 + C.length)).toArray := ⟨_, rfl⟩
  have hR2l : R2.size = G * 4 := by rw [hR2]; simp; omega
  have hR2t : R2.toList.take ((n + 1) * 4) = A ++ (vs ++ C) := by
    rw [hR2, hR1]
    have := grow_take A Z.toList C vs i n hi hAl hCl hl
    simpa using this
  have hcp1 : ∀ ty dc, (Builtin.copy_ #[114, 114] ty #[.slice (some ⟨h, i * 4, none⟩) (n + 1 - i) dc, .slice (some ⟨vb, 0, none⟩) 1 1]).run Try.prog W1 = .ok (goInt 1) (W1.setRow h R1) := by
    intro ty dc
    have hm : Nat.min 1 (n + 1 - i) = 1 := by simp only [Nat.min_def]; split <;> omega
    have := run_copyK (P := Try.prog) W1 114 114 ty 117 4 h (i * 4) (n + 1 - i) dc ⟨vb, 0, none⟩ 1 1 (A.toArray ++ Z) 117 vs Try.underlying114 hsz hh1 (by rw [hm, hl])
      (fun j u hu => by rw [Addr.add_lit, Nat.zero_add]; rw [hv1.cell]; simpa using hu) (by simp; omega) h1
    rw [hm, ← hR1] at this
    exact this
  obtain ⟨W2, hW2⟩ : ∃ W2, W2 = W1.setRow h R1 := ⟨_, rfl⟩
  have hh2 : Blk W2 h 117 R1 := by rw [hW2]; exact setRow_heap W1 h _ R1 _ _ hh1
  have hg2 : Blk W2 g 117 cur := by
    unfold Blk
    rw [hW2, setRow_other W1 h g R1 (by omega)]
    exact hg1
  rw [← hW2] at hcp1
  have hcp2 : ∀ ty dc sc, (Builtin.copy_ #[114, 114] ty #[.slice (some ⟨h, (i + 1) * 4, none⟩) (n - i) dc, .slice (some ⟨g, i * 4, none⟩) (n - i) sc]).run Try.prog W2.drew = .ok (goInt ((n - i : Nat) : Int)) (W2.drew.setRow h R2) := by
    intro ty dc sc
    have hm : Nat.min (n - i) (n - i) = n - i := Nat.min_self _
    have := run_copyK (P := Try.prog) W2.drew 114 114 ty 117 4 h ((i + 1) * 4) (n - i) dc ⟨g, i * 4, none⟩ (n - i) sc R1 117 C Try.underlying114 hsz hh2 (by rw [hm]; exact hCl)
      (fun j u hu => by rw [Addr.add_lit]; exact (hg2.drew.cell _).trans (hCs j u hu)) (by omega) hC1
    rw [hm, ← hR2] at this
    exact this
  have hfin : InsW base (.slice (some ⟨g, 0, none⟩) n cap) (n + 1) (A ++ (vs ++ C)) w (.returned (.slice (some ⟨h, 0, none⟩) (n + 1) G)) (W2.drew.setRow h R2) := by
    refine ⟨h, G, rfl, ?_, ?_, .inr (by omega), ?_⟩
    · exact own_of_blk (setRow_heap W2.drew h R1 R2 _ _ hh2) (by omega) hGn (by unfold maxLen; omega) hR2l hR2t (by simp; omega)
    · refine grown_setRow (g := h) ?_ (.inr (by omega)) R2
      have h0 : w.grownBy W1.drew (some g) := ⟨hgw.os, hgw.tape, hgw.output, hgw.size, fun k hk _ => hgw.block k hk (by simp)⟩
      have := grown_setRow (g := h) h0 (.inr (by omega)) R1
      rw [hW2]
      exact this
    · rw [hW2]
      simpa [World.setRow] using hhw
  have HF := Lib.hid hfin
  have hGi : ¬ (G = i) := by omega
  have hGi1 : ¬ (G = i + 1) := by omega
  have hGi2 : i ≤ G := by omega
  have hGi3 : i + 1 ≤ G := by omega
  rw [← hC, ← hA]
  clear hfin hg hv hs hl h1 h1c hg1 hv1 hh1 hh2 hg2 hW1 hW2 hR2t hR2l hR2 hR1l hR1 hCs hAs hAl hC1 hCl hC hA hZl hZ hG hzc hold hgw hhw hgl hvl hi0 hz0 hzs hzb hh hsz
  go_enter Try.func132, Try.ntmps132
  go_wp2_with (first
    | (at_builtin; refine Lib.wpList_append_run _ rfl _ _ _ _ rfl _ _ rfl rfl _ _ (hrz _) ?_)
    | (at_builtin; refine wpList_copy_runI _ rfl _ _ 114 114 rfl _ _ rfl rfl (hcp1 _ _) ?_))
  go_region_law (refine step_copy_runI rfl _ _ 114 114 rfl _ _ (by simp [Act.eval, Act.put]) (by simp [Act.eval, Act.put]) (hcp2 _ _ _) ?_)
  go_wp2
  go_ret
  exact HF.out
end Go.Proofs.Yticmfflnenoplaa
