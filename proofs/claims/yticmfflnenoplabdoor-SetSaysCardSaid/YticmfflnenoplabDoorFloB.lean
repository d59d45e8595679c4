/- A region whose order is open, where two things that make memory are in no order: the ways part, and meet behind the region. No program is named here; no statement is proved here. -/
import Derived.Test.YticmfflnenoplabDoorFlo
namespace Go.Proofs.YticmfflnenoplabDoor.Flo

section
variable {P : Program} {ops : Array Oper} {md : Region.Mode} {I : World → Prop}
def walkL (md : Region.Mode) (ops : Array Oper) : List Nat → Array Bool → Array Bool → Bool
  | [], L, listed => decide (listed = L)
  | k :: rest, L, listed => (Region.ready md ops listed).contains k && Region.free md ops listed k && walkL md ops rest L (listed.setIfInBounds k true)
def wpFs (P : Program) (ops : Array Oper) (I : World → Prop) (Q : Act → World → Prop) (l : List Nat) : Act → World → Prop := wpFl P ops I Q (l.map fun k => (k, true))

theorem anyI_floats {n g : Nat} {B : Array Nat} {L : Array Bool} {Q : Act → World → Prop} (hsel : Region.noSelect ops = true) (hB : ancB md ops B = true) :
    ∀ (hd : List Nat) (listed : Array Bool) (a : Act) (w : World), floats n ops B (hd.map fun k => (k, true)) = true → walkL md ops hd L listed = true → Closed md ops listed → I w → wpFs P ops I (anyI P md ops I n Q g L) hd a w → anyI P md ops I n Q (hd.length + g) listed a w
  | [], listed, a, w, _, hw, _, _, h => by
    simp only [List.length_nil, Nat.zero_add]
    simp only [walkL, decide_eq_true_eq] at hw
    subst hw
    exact h
  | k :: rest, listed, a, w, hfl, hw, inv, hI, h => by
    obtain ⟨o, v, ho, hy, h⟩ := h
    simp only [walkL, Bool.and_eq_true] at hw
    obtain ⟨⟨hr, hf⟩, hw⟩ := hw
    have hr' : k ∈ Region.ready md ops listed := by simpa using hr
    simp only [floats, List.map_cons, List.all_cons, Bool.and_eq_true, Bool.not_true, Bool.false_or] at hfl
    have hanc : ∀ t, n ≤ t → t < ops.size → (B.getD t 0).testBit k = true := fun t h1 h2 => by
      have := List.all_eq_true.1 hfl.1 t (List.mem_range.2 h2)
      simp only [Bool.or_eq_true, decide_eq_true_eq] at this
      rcases this with this | this
      · omega
      · exact this
    have := anyI_first ho (Region.noSelect_spec hsel) hB hanc (rest.length + g) listed a w inv hI (Region.free_spec ho hf) hr' hy
      (anyI_floats hsel hB rest _ _ _ hfl.2 hw (inv.set hr') hI h)
    rw [show (k :: rest).length + g = rest.length + g + 1 by simp; omega]
    exact this

def brB (ops : Array Oper) (hd : List Nat) (n : Nat) (L : Array Bool) : Bool :=
  Region.noSelect ops && ancB .any ops (Region.before ops) && floats n ops (Region.before ops) (hd.map fun k => (k, true)) && walkL .any ops hd L (Array.replicate ops.size false)
end

section
variable {P : Program} {I : World → Prop} {a : Act} {w : World} {l : List Oper}
/-- The region: hd: what floats, first; L: what is listed behind it; n: the first of the tail; g: how many are left. -/
theorem regionBr {id : Nat} {Q : Exit → Act → World → Prop} (n g : Nat) (hd : List Nat) (L : Array Bool) (I : World → Prop) (hm : P.follows .mixedOrders = true) (hB : brB l.toArray hd n L = true) (hl : hd.length + g = l.length) (hI : I w.drew)
    (h : wpFs P l.toArray I (anyI P .any l.toArray I n (Q .normal) g L) hd a w.drew) : (Code.region id l.toArray true).wp P Q a w := by
  simp only [brB, Bool.and_eq_true] at hB
  obtain ⟨⟨⟨hsel, hanc⟩, hfl⟩, hw⟩ := hB
  refine wp_region_any hm (any_of_anyI (I := I) (n := n) _ _ _ _ ?_)
  have := anyI_floats (P := P) (I := I) (g := g) (Q := Q .normal) hsel hanc hd (Array.replicate l.toArray.size false) a w.drew hfl hw ⟨by simp, fun j oj _ hl => by rw [getD_replicate_false] at hl; cases hl⟩ hI h
  rw [hl] at this
  simpa using this

variable {ops : Array Oper} {Q : Act → World → Prop} {n g : Nat} {L : Array Bool}
theorem br1 {i : Nat} {oi : Oper} (hr : Region.ready .any ops L = [i]) (hi : ops[i]? = some oi)
    (h : ∀ K : Act → World → Prop, (∀ a' w', (i < n → I w') → anyI P .any ops I n Q g (L.setIfInBounds i true) a' w' → K a' w') → wpList P ops (Exit.then K QF) [oi] a w) : anyI P .any ops I n Q (g + 1) L a w := by
  refine ⟨by rw [hr]; simp, fun k hk => ?_⟩
  rw [hr] at hk
  obtain rfl : k = i := by simpa using hk
  exact ⟨oi, hi, opN_of_list (h _ fun _ _ h1 h2 => ⟨h1, h2⟩)⟩
theorem br2 {i j : Nat} {oi oj : Oper} (hr : Region.ready .any ops L = [i, j]) (hi : ops[i]? = some oi) (hj : ops[j]? = some oj)
    (h : ∀ K : Act → World → Prop, (∀ a' w', (i < n → I w') → anyI P .any ops I n Q g (L.setIfInBounds i true) a' w' → K a' w') → wpList P ops (Exit.then K QF) [oi] a w)
    (h2 : ∀ K : Act → World → Prop, (∀ a' w', (j < n → I w') → anyI P .any ops I n Q g (L.setIfInBounds j true) a' w' → K a' w') → wpList P ops (Exit.then K QF) [oj] a w) : anyI P .any ops I n Q (g + 1) L a w := by
  refine ⟨by rw [hr]; simp, fun k hk => ?_⟩
  rw [hr] at hk
  simp only [List.mem_cons, List.not_mem_nil, or_false] at hk
  rcases hk with rfl | rfl
  · exact ⟨oi, hi, opN_of_list (h _ fun _ _ h1 h2 => ⟨h1, h2⟩)⟩
  · exact ⟨oj, hj, opN_of_list (h2 _ fun _ _ h1 h2 => ⟨h1, h2⟩)⟩
theorem br3 {i j m : Nat} {oi oj om : Oper} (hr : Region.ready .any ops L = [i, j, m]) (hi : ops[i]? = some oi) (hj : ops[j]? = some oj) (hm : ops[m]? = some om)
    (h : ∀ K : Act → World → Prop, (∀ a' w', (i < n → I w') → anyI P .any ops I n Q g (L.setIfInBounds i true) a' w' → K a' w') → wpList P ops (Exit.then K QF) [oi] a w)
    (h2 : ∀ K : Act → World → Prop, (∀ a' w', (j < n → I w') → anyI P .any ops I n Q g (L.setIfInBounds j true) a' w' → K a' w') → wpList P ops (Exit.then K QF) [oj] a w)
    (h3 : ∀ K : Act → World → Prop, (∀ a' w', (m < n → I w') → anyI P .any ops I n Q g (L.setIfInBounds m true) a' w' → K a' w') → wpList P ops (Exit.then K QF) [om] a w) : anyI P .any ops I n Q (g + 1) L a w := by
  refine ⟨by rw [hr]; simp, fun k hk => ?_⟩
  rw [hr] at hk
  simp only [List.mem_cons, List.not_mem_nil, or_false] at hk
  rcases hk with rfl | rfl | rfl
  · exact ⟨oi, hi, opN_of_list (h _ fun _ _ h1 h2 => ⟨h1, h2⟩)⟩
  · exact ⟨oj, hj, opN_of_list (h2 _ fun _ _ h1 h2 => ⟨h1, h2⟩)⟩
  · exact ⟨om, hm, opN_of_list (h3 _ fun _ _ h1 h2 => ⟨h1, h2⟩)⟩
theorem brEnd (hr : Region.ready .any ops L = []) (h : Q a w) : anyI P .any ops I n Q 0 L a w := ⟨hr, h⟩
end
end Go.Proofs.YticmfflnenoplabDoor.Flo
