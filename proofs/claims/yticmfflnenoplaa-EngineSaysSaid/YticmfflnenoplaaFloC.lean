/- A region whose order is open, with late stores: besides what floats in every world of a kind, what floats in every world (behind stores, too). No program is named here; no statement is proved here. -/
import Derived.Test.YticmfflnenoplaaFlo
namespace Go.Proofs.Yticmfflnenoplaa.Flo

section
variable {P : Program} {ops : Array Oper} {md : Region.Mode} {I : World → Prop} {L : List Nat}

/-- None of the late ones is done. -/
def Early (L : List Nat) (listed : Array Bool) : Prop := ∀ t, t ∈ L → listed.getD t false = false
/-- Each order; as long as none of the late ones is done all worlds are of the kind. -/
def anyE (P : Program) (md : Region.Mode) (ops : Array Oper) (I : World → Prop) (L : List Nat) (Q : Act → World → Prop) : Nat → Array Bool → Act → World → Prop
  | 0, listed, a, w => Region.ready md ops listed = [] ∧ Q a w
  | f + 1, listed, a, w =>
    Region.ready md ops listed ≠ [] ∧
    ∀ i ∈ Region.ready md ops listed, ∃ o, ops[i]? = some o ∧ opN P ops o (fun a' w' => (Early L (listed.setIfInBounds i true) → I w') ∧ anyE P md ops I L Q f (listed.setIfInBounds i true) a' w') a w
theorem any_of_anyE {Q : Exit → Act → World → Prop} : ∀ (f : Nat) (listed : Array Bool) (a : Act) (w : World), anyE P md ops I L (Q .normal) f listed a w → wpAny P md ops Q f listed a w
  | 0, _, _, _, h => h
  | f + 1, _, _, _, h => ⟨fun h0 => absurd h0 h.1, fun i hi => by
      obtain ⟨o, ho, hh⟩ := h.2 i hi
      exact wpOp_of_opN ho (opN_mono (fun a w h => any_of_anyE f _ a w h.2) hh)⟩

theorem Early.set_ne {listed : Array Bool} {i : Nat} (h : Early L listed) (hi : i ∉ L) : Early L (listed.setIfInBounds i true) := fun t ht => by
  have hne : i ≠ t := by rintro rfl; exact hi ht
  rw [getD_set_ne false hne]
  exact h t ht
theorem Early.of_set {listed : Array Bool} {i : Nat} (h : Early L (listed.setIfInBounds i true)) (hi : i ∉ L) : Early L listed := fun t ht => by
  have := h t ht
  have hne : i ≠ t := by rintro rfl; exact hi ht
  rwa [getD_set_ne false hne] at this

theorem anyE_pure {i : Nat} {oi : Oper} {v : Value} {Q : Act → World → Prop} (hi : ops[i]? = some oi) (hsel : ∀ (j : Nat) (o : Oper) cs b, ops[j]? = some o → o.op ≠ .select cs b) (hn : i ∉ L) :
    ∀ (f : Nat) (listed : Array Bool) (a : Act) (w : World), Closed md ops listed → (Early L listed → I w) →
      (∀ j oj, ops[j]? = some oj → j ≠ i → listed.getD j true = false → (∀ e ∈ oj.after, Region.binds md e = true → e.on ≠ i) → oi.apart ops oj = true) →
      i ∈ Region.ready md ops listed → YV P ops (fun _ => True) oi v a →
      anyE P md ops I L Q f (listed.setIfInBounds i true) (a.put oi.dst v) w → anyE P md ops I L Q (f + 1) listed a w := by
  intro f
  induction f with
  | zero =>
    intro listed a w inv hI hfree hr hy H
    refine ⟨fun h => (by rw [h] at hr; cases hr), fun j hj => ?_⟩
    by_cases hji : j = i
    · subst hji; exact ⟨oi, hi, hy.opN trivial ⟨fun h => hI (h.of_set hn), H⟩⟩
    · have := ready_mono hj hji
      rw [H.1] at this
      cases this
  | succ f ih =>
    intro listed a w inv hI hfree hr hy H
    refine ⟨fun h => (by rw [h] at hr; cases hr), fun j hj => ?_⟩
    by_cases hji : j = i
    · subst hji; exact ⟨oi, hi, hy.opN trivial ⟨fun h => hI (h.of_set hn), H⟩⟩
    · obtain ⟨oj', hoj', h1⟩ := H.2 j (ready_mono hj hji)
      obtain ⟨hjun, oj, hoj, hall⟩ := mem_ready.1 hj
      obtain rfl : oj' = oj := Option.some.inj (hoj'.symm.trans hoj)
      have hun : listed.getD i false = false := getD_both (mem_ready.1 hr).1
      have hnot : ∀ e ∈ oj'.after, Region.binds md e = true → e.on ≠ i := fun e he hb heq => by
        have h1 := hall e he hb
        rw [heq, hun] at h1
        cases h1
      have h2 := opN_put (hfree j oj' hoj hji hjun hnot) (fun cs b => hsel i oi cs b hi) (fun cs b => hsel j oj' cs b hoj) hy h1
      have hfree' : ∀ k ok, ops[k]? = some ok → k ≠ i → (listed.setIfInBounds j true).getD k true = false →
          (∀ e ∈ ok.after, Region.binds md e = true → e.on ≠ i) → oi.apart ops ok = true := fun k ok hk hki hun hno => by
        refine hfree k ok hk hki ?_ hno
        by_cases hjk : j = k
        · subst hjk; exact hjun
        · rw [getD_set_ne true hjk] at hun; exact hun
      have hcm : (listed.setIfInBounds i true).setIfInBounds j true = (listed.setIfInBounds j true).setIfInBounds i true := Array.setIfInBounds_comm _ _ (Ne.symm hji)
      refine ⟨oj', hoj, opN_mono (fun a' w' h3 => ?_) h2⟩
      have hI' : Early L (listed.setIfInBounds j true) → I w' := fun h => h3.2.1 (by rw [hcm]; exact h.set_ne hn)
      refine ⟨hI', ih (listed.setIfInBounds j true) a' w' (inv.set hj) hI' hfree' (ready_mono hr (Ne.symm hji)) h3.1 ?_⟩
      rw [← hcm]
      exact h3.2.2

theorem anyE_first {i : Nat} {oi : Oper} {v : Value} {B : Array Nat} {Q : Act → World → Prop} (hi : ops[i]? = some oi) (hsel : ∀ (j : Nat) (o : Oper) cs b, ops[j]? = some o → o.op ≠ .select cs b) (hB : ancB md ops B = true)
    (hn : i ∉ L) (hanc : ∀ t, t ∈ L → t < ops.size ∧ (B.getD t 0).testBit i = true) :
    ∀ (f : Nat) (listed : Array Bool) (a : Act) (w : World), Closed md ops listed → I w →
      (∀ j oj, ops[j]? = some oj → j ≠ i → listed.getD j true = false → (∀ e ∈ oj.after, Region.binds md e = true → e.on ≠ i) → oi.apart ops oj = true) →
      i ∈ Region.ready md ops listed → YV P ops I oi v a →
      anyE P md ops I L Q f (listed.setIfInBounds i true) (a.put oi.dst v) w → anyE P md ops I L Q (f + 1) listed a w := by
  intro f
  have his : i < ops.size := (Array.getElem?_eq_some_iff.1 hi).1
  induction f with
  | zero =>
    intro listed a w inv hI hfree hr hy H
    refine ⟨fun h => (by rw [h] at hr; cases hr), fun j hj => ?_⟩
    by_cases hji : j = i
    · subst hji; exact ⟨oi, hi, hy.opN hI ⟨fun _ => hI, H⟩⟩
    · have := ready_mono hj hji
      rw [H.1] at this
      cases this
  | succ f ih =>
    intro listed a w inv hI hfree hr hy H
    refine ⟨fun h => (by rw [h] at hr; cases hr), fun j hj => ?_⟩
    by_cases hji : j = i
    · subst hji; exact ⟨oi, hi, hy.opN hI ⟨fun _ => hI, H⟩⟩
    · obtain ⟨oj', hoj', h1⟩ := H.2 j (ready_mono hj hji)
      obtain ⟨hjun, oj, hoj, hall⟩ := mem_ready.1 hj
      obtain rfl : oj' = oj := Option.some.inj (hoj'.symm.trans hoj)
      have hun : listed.getD i false = false := getD_both (mem_ready.1 hr).1
      have hnot : ∀ e ∈ oj'.after, Region.binds md e = true → e.on ≠ i := fun e he hb heq => by
        have h1 := hall e he hb
        rw [heq, hun] at h1
        cases h1
      have hjn : j ∉ L := fun h => by
        have := anc_listed hB inv i his j oj' hoj hall (hanc j h).2
        rw [hun] at this
        cases this
      have hea : Early L listed := fun t ht => by
        rcases hlt : listed.getD t false with _ | _
        · rfl
        · obtain ⟨hts, htb⟩ := hanc t ht
          have hto : ops[t]? = some ops[t] := by simp [hts]
          have := anc_listed hB inv i his t _ hto (inv.closed t _ hto hlt) htb
          rw [hun] at this
          cases this
      have h2 := opN_put (hfree j oj' hoj hji hjun hnot) (fun cs b => hsel i oi cs b hi) (fun cs b => hsel j oj' cs b hoj) hy h1
      have hfree' : ∀ k ok, ops[k]? = some ok → k ≠ i → (listed.setIfInBounds j true).getD k true = false →
          (∀ e ∈ ok.after, Region.binds md e = true → e.on ≠ i) → oi.apart ops ok = true := fun k ok hk hki hun hno => by
        refine hfree k ok hk hki ?_ hno
        by_cases hjk : j = k
        · subst hjk; exact hjun
        · rw [getD_set_ne true hjk] at hun; exact hun
      refine ⟨oj', hoj, opN_mono (fun a' w' h3 => ?_) h2⟩
      have hI' : I w' := h3.2.1 ((hea.set_ne hn).set_ne hjn)
      refine ⟨fun _ => hI', ih (listed.setIfInBounds j true) a' w' (inv.set hj) hI' hfree' (ready_mono hr (Ne.symm hji)) h3.1 ?_⟩
      rw [Array.setIfInBounds_comm _ _ hji]
      exact h3.2.2

theorem anyE_seq {Q : Act → World → Prop} : ∀ (l : List Oper) (k : Nat) (listed : Array Bool) (a : Act) (w : World), listed.size = ops.size → (∀ j, l[j]? = ops[k + j]?) → (∀ j, j < l.length → k + j ∈ L) →
    Region.seqB md ops l.length k listed = true → wpList P ops (Exit.then Q QF) l a w → anyE P md ops I L Q l.length listed a w
  | [], _, _, _, _, _, _, _, hB, h => ⟨by simpa [Region.seqB] using hB, h⟩
  | o :: l, k, listed, a, w, hsz, hl, hn, hB, h => by
    have h0 : ops[k]? = some o := by simpa using (hl 0).symm
    have hks : k < ops.size := (Array.getElem?_eq_some_iff.1 h0).1
    simp only [List.length_cons, Region.seqB, Bool.and_eq_true, decide_eq_true_eq] at hB
    refine ⟨fun h1 => (by rw [hB.1] at h1; cases h1), fun i hi => ?_⟩
    rw [hB.1] at hi
    have hik : i = k := by simpa using hi
    subst hik
    refine ⟨o, h0, opN_mono (fun a' w' h' => ⟨fun he => ?_, anyE_seq l (i + 1) _ a' w' (by simpa using hsz) (fun j => by have := hl (j + 1); simpa [Nat.add_assoc, Nat.add_comm 1 j] using this) (fun j hj => by have := hn (j + 1) (by simpa using hj); simpa [Nat.add_assoc, Nat.add_comm 1 j] using this) hB.2 h'⟩) (?_ : opN P ops o (wpList P ops (Exit.then Q QF) l) a w)⟩
    · have h1 := he i (by have := hn 0 (by simp); simpa using this)
      have h2 : (listed.setIfInBounds i true).getD i false = true := by
        simp [Array.getD, hsz, hks]
      rw [h2] at h1
      cases h1
    refine opN_of_list ?_
    unfold wpList at h ⊢
    split
    · rename_i hw
      rw [if_pos hw] at h
      rcases h with h | ⟨_, _, _, h⟩
      · refine .inl (Oper.wp_mono (fun _ _ h => h) ?_)
        unfold Oper.wp at *
        generalize (execOp a.eval o).run P w = r at *
        cases r with
        | ok x w' =>
          cases x <;> simp only [Oper.upon] at h ⊢ <;>
            first
              | exact h
              | exact Calls.mono h (fun e w'' he => by
                  cases e
                  · exact he
                  · exact he
                  · obtain ⟨_, _, he⟩ := he; exact he.elim)
        | halt x w' => cases x <;> simp only [Oper.upon] at h ⊢ <;> exact h
      · exact h.elim
    · rename_i hw; rw [if_neg hw] at h; exact h

/-- The row of the head's operations: (k, some true) floats in the worlds of the kind, (k, some false) in every world, (k, none) goes in its row. -/
def wpC (P : Program) (ops : Array Oper) (I : World → Prop) (L : List Nat) (Q : Act → World → Prop) : List (Nat × Option Bool) → Act → World → Prop
  | [], a, w => Q a w
  | (k, some true) :: rest, a, w => ∃ o v, ops[k]? = some o ∧ I w ∧ YV P ops I o v a ∧ wpC P ops I L Q rest (a.put o.dst v) w
  | (k, some false) :: rest, a, w => ∃ o v, ops[k]? = some o ∧ I w ∧ YV P ops (fun _ => True) o v a ∧ wpC P ops I L Q rest (a.put o.dst v) w
  | (k, none) :: rest, a, w => ∃ o, ops[k]? = some o ∧ opN P ops o (fun a' w' => (k ∉ L → I w') ∧ wpC P ops I L Q rest a' w') a w

def walkC (md : Region.Mode) (ops : Array Oper) (m : Nat) : List (Nat × Option Bool) → Array Bool → Bool
  | [], listed => Region.seqB md ops (ops.size - m) m listed
  | (k, some _) :: rest, listed => (Region.ready md ops listed).contains k && Region.free md ops listed k && walkC md ops m rest (listed.setIfInBounds k true)
  | (k, none) :: rest, listed => decide (Region.ready md ops listed = [k]) && walkC md ops m rest (listed.setIfInBounds k true)
def floatsC (L : List Nat) (B : Array Nat) (hd : List (Nat × Option Bool)) : Bool := hd.all fun k => match k.2 with
  | none => true
  | some true => !L.contains k.1 && L.all fun t => (B.getD t 0).testBit k.1
  | some false => !L.contains k.1
def flC (ops : Array Oper) (hd : List (Nat × Option Bool)) (L : List Nat) (m : Nat) : Bool :=
  (L.all fun t => decide (t < ops.size)) && ((List.range ops.size).all fun t => decide (t < m) || L.contains t) && Region.noSelect ops && ancB .any ops (Region.before ops) && floatsC L (Region.before ops) hd && walkC .any ops m hd (Array.replicate ops.size false)

theorem anyE_head {m g : Nat} {B : Array Nat} {Q : Act → World → Prop} (hsel : Region.noSelect ops = true) (hB : ancB md ops B = true) (hL : ∀ t, t ∈ L → t < ops.size) (hg : g = ops.size - m) {tl : Act → World → Prop}
    (htl : ∀ listed a w, listed.size = ops.size → Region.seqB md ops g m listed = true → tl a w → anyE P md ops I L Q g listed a w) :
    ∀ (hd : List (Nat × Option Bool)) (listed : Array Bool) (a : Act) (w : World), floatsC L B hd = true → walkC md ops m hd listed = true → Closed md ops listed → wpC P ops I L tl hd a w → anyE P md ops I L Q (hd.length + g) listed a w
  | [], listed, a, w, _, hw, inv, h => by
    simp only [List.length_nil, Nat.zero_add]
    exact htl _ _ _ inv.size (by subst hg; exact hw) h
  | (k, some true) :: rest, listed, a, w, hfl, hw, inv, h => by
    obtain ⟨o, v, ho, hI, hy, h⟩ := h
    simp only [walkC, Bool.and_eq_true] at hw
    obtain ⟨⟨hr, hf⟩, hw⟩ := hw
    have hr' : k ∈ Region.ready md ops listed := by simpa using hr
    simp only [floatsC, List.all_cons, Bool.and_eq_true] at hfl
    have hkn : k ∉ L := by simpa using hfl.1.1
    have := anyE_first ho (Region.noSelect_spec hsel) hB hkn (fun t ht => ⟨hL t ht, List.all_eq_true.1 hfl.1.2 t ht⟩) (rest.length + g) listed a w inv hI (Region.free_spec ho hf) hr' hy
      (anyE_head hsel hB hL hg htl rest _ _ _ hfl.2 hw (inv.set hr') h)
    rw [show ((k, some true) :: rest).length + g = rest.length + g + 1 by simp; omega]
    exact this
  | (k, some false) :: rest, listed, a, w, hfl, hw, inv, h => by
    obtain ⟨o, v, ho, hI, hy, h⟩ := h
    simp only [walkC, Bool.and_eq_true] at hw
    obtain ⟨⟨hr, hf⟩, hw⟩ := hw
    have hr' : k ∈ Region.ready md ops listed := by simpa using hr
    simp only [floatsC, List.all_cons, Bool.and_eq_true] at hfl
    have hkn : k ∉ L := by simpa using hfl.1
    have := anyE_pure ho (Region.noSelect_spec hsel) hkn (rest.length + g) listed a w inv (fun _ => hI) (Region.free_spec ho hf) hr' hy
      (anyE_head hsel hB hL hg htl rest _ _ _ hfl.2 hw (inv.set hr') h)
    rw [show ((k, some false) :: rest).length + g = rest.length + g + 1 by simp; omega]
    exact this
  | (k, none) :: rest, listed, a, w, hfl, hw, inv, h => by
    obtain ⟨o, ho, h⟩ := h
    simp only [walkC, Bool.and_eq_true, decide_eq_true_eq] at hw
    obtain ⟨hr, hw⟩ := hw
    simp only [floatsC, List.all_cons, Bool.and_eq_true] at hfl
    rw [show ((k, none) :: rest).length + g = rest.length + g + 1 by simp; omega]
    refine ⟨fun h1 => (by rw [hr] at h1; cases h1), fun i hi => ?_⟩
    have hi' := hi
    rw [hr] at hi
    have hik : i = k := by simpa using hi
    subst hik
    refine ⟨o, ho, opN_mono (fun a' w' h' => ⟨fun he => h'.1 fun hm => ?_, anyE_head hsel hB hL hg htl rest _ a' w' hfl.2 hw (inv.set hi') h'.2⟩) h⟩
    have h1 := he i hm
    have h2 : (listed.setIfInBounds i true).getD i false = true := by
      simp [Array.getD, inv.size, hL i hm]
    rw [h2] at h1
    cases h1
end

section
variable {P : Program} {I : World → Prop} {a : Act} {w : World} {l : List Oper} {L : List Nat}
/-- THE REGION: hd: its head, in an order of ours; L: the late ones (behind which the worlds need not be of the kind); m: the first of the tail (late ones all), which goes as it is written. -/
theorem regionC {id : Nat} {Q : Exit → Act → World → Prop} (L : List Nat) (m : Nat) (hd : List (Nat × Option Bool)) (I : World → Prop) (hm : P.follows .mixedOrders = true) (hB : flC l.toArray hd L m = true) (hl : hd.length + (l.length - m) = l.length)
    (h : wpC P l.toArray I L (fun a' w' => wpList P l.toArray (Exit.then (Q .normal) QF) (l.drop m) a' w') hd a w.drew) : (Code.region id l.toArray true).wp P Q a w := by
  simp only [flC, Bool.and_eq_true] at hB
  obtain ⟨⟨⟨⟨⟨hLs, hLm⟩, hsel⟩, hanc⟩, hfl⟩, hw⟩ := hB
  have hL : ∀ t, t ∈ L → t < l.toArray.size := fun t ht => by simpa using List.all_eq_true.1 hLs t ht
  refine wp_region_any hm (any_of_anyE (I := I) (L := L) _ _ _ _ ?_)
  have := anyE_head (P := P) (I := I) (L := L) (Q := Q .normal) (g := l.length - m) (tl := fun a' w' => wpList P l.toArray (Exit.then (Q .normal) QF) (l.drop m) a' w') hsel hanc hL (by simp)
    (fun listed a w hsz hs h => by
      have := anyE_seq (P := P) (I := I) (L := L) (md := .any) (Q := Q .normal) (l.drop m) m listed a w hsz (fun j => by simp [List.getElem?_drop]) (fun j hj => by
        have := List.all_eq_true.1 hLm (m + j) (List.mem_range.2 (by simp at hj ⊢; omega))
        simp only [Bool.or_eq_true, decide_eq_true_eq, List.contains_iff_mem] at this
        rcases this with h | h
        · omega
        · exact h) (by simpa using hs) h
      simpa using this) hd (Array.replicate l.toArray.size false) a w.drew hfl hw ⟨by simp, fun j oj _ hl => by rw [getD_replicate_false] at hl; cases hl⟩ h
  rw [hl] at this
  simpa using this

variable {ops : Array Oper} {Q : Act → World → Prop} {k : Nat} {rest : List (Nat × Option Bool)} {o : Oper} {a' : Act}
/-- An operation that floats in the worlds of the kind. -/
theorem opf (ho : ops[k]? = some o) (h : ∀ w, I w → ∀ K : Act → World → Prop, K a' w → wpList P ops (Exit.then K QF) [o] a w) (hI : I w) (hd : a'.defers = a.defers) (hn : wpC P ops I L Q rest a' w) : wpC P ops I L Q ((k, some true) :: rest) a w := by
  obtain ⟨o', v, ho', hy, he⟩ := op (rest := []) (Q := fun a1 _ => a1 = a') ho h hI hd rfl
  refine ⟨o', v, ho', hI, hy, ?_⟩
  have he2 : a.put o'.dst v = a' := he
  rw [he2]
  exact hn
/-- An operation that floats in every world. -/
theorem opp (ho : ops[k]? = some o) (h : ∀ w, ∀ K : Act → World → Prop, K a' w → wpList P ops (Exit.then K QF) [o] a w) (hI : I w) (hd : a'.defers = a.defers) (hn : wpC P ops I L Q rest a' w) : wpC P ops I L Q ((k, some false) :: rest) a w := by
  obtain ⟨o', v, ho', hy, he⟩ := op (I := fun _ => True) (rest := []) (Q := fun a1 _ => a1 = a') ho (fun w _ => h w) (w := w) trivial hd rfl
  refine ⟨o', v, ho', hI, hy, ?_⟩
  have he2 : a.put o'.dst v = a' := he
  rw [he2]
  exact hn
/-- An operation in its row. -/
theorem ops_ (ho : ops[k]? = some o) (h : ∀ K : Act → World → Prop, (∀ a' w', (k ∉ L → I w') → wpC P ops I L Q rest a' w' → K a' w') → wpList P ops (Exit.then K QF) [o] a w) : wpC P ops I L Q ((k, none) :: rest) a w :=
  ⟨o, ho, opN_of_list (h _ fun _ _ h1 h2 => ⟨h1, h2⟩)⟩
/-- The tail, what stands behind it under a name. -/
theorem tailC {Qn : Act → World → Prop} {tl : List Oper} (h : ∀ K : Act → World → Prop, (∀ a w, Qn a w → K a w) → wpList P ops (Exit.then K QF) tl a w) : wpC P ops I L (fun a' w' => wpList P ops (Exit.then Qn QF) tl a' w') [] a w := h _ fun _ _ h => h
end
end Go.Proofs.Yticmfflnenoplaa.Flo
