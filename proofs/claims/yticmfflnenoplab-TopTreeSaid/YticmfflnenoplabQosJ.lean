/- Groups: plain; pods as elements of a slice. No statement is proved here. -/
import Derived.Test.YticmfflnenoplabQosI
import Derived.Test.YticmfflnenoplabFloB
namespace Go.Proofs.Yticmfflnenoplab
open Go.RowKit Qo Da
namespace Qo
structure Gr where
  path : ByteArray
  sh : Int
  qu : Int
  by_ : Int
def Gr.cells (g : Gr) : List Value := [.string g.path, .int .i64 g.sh, .int .i64 g.qu, .int .i64 g.by_]
def flatG (l : List Gr) : List Value := l.flatMap Gr.cells
theorem flatG_snoc (l : List Gr) (g : Gr) : flatG (l ++ [g]) = flatG l ++ g.cells := by simp [flatG]
def contG (p : Pod) (c : Cont) : Gr := ⟨(pathP p ++ ⟨#[47]⟩) ++ c.name, shares c.askM, quota c.capM, c.capB⟩
def podG (p : Pod) : Gr := ⟨pathP p, shares (askedM p), quota (capF Cont.capM p.conts), capF Cont.capB p.conts⟩
def podK (p : Pod) (j : Nat) : List Gr := podG p :: (p.conts.take j).map (contG p)
theorem podK_zero (p : Pod) : podK p 0 = [podG p] := by simp [podK]
theorem podK_next (p : Pod) (j : Nat) (h : j < p.conts.length) : podK p (j + 1) = podK p j ++ [contG p p.conts[j]] := by
  unfold podK
  rw [List.take_succ_eq_append_getElem h, List.map_append]
  rfl
theorem podK_len (p : Pod) (j : Nat) (h : j ≤ p.conts.length) : (podK p j).length = j + 1 := by
  simp [podK, Nat.min_eq_left h]
def mid (l : List Pod) : Nat → Int
  | 0 => 0
  | k + 1 => mid l k + (match l[k]? with | some p => if cls p = 2 then askedM p else 0 | none => 0)
theorem mid_yes (l : List Pod) (k : Nat) (h : k < l.length) (hc : cls l[k] = 2) : mid l (k + 1) = mid l k + askedM l[k] := by
  simp [mid, List.getElem?_eq_getElem h, hc]
theorem mid_no (l : List Pod) (k : Nat) (h : k < l.length) (hc : cls l[k] ≠ 2) : mid l (k + 1) = mid l k := by
  simp [mid, List.getElem?_eq_getElem h, hc]
theorem asked_le {p : Pod} (h : GoodP p) : 0 ≤ askedM p ∧ askedM p ≤ 3000000 := (h.sums p.conts.length (Nat.le_refl _)).1
theorem mid_le (l : List Pod) (h : ∀ k (hk : k < l.length), GoodP l[k]) (k : Nat) (hk : k ≤ l.length) : 0 ≤ mid l k ∧ mid l k ≤ 3000000 * (k : Int) := by
  induction k with
  | zero => simp [mid]
  | succ k ih =>
    have h1 := ih (by omega)
    have h2 := asked_le (h k (by omega))
    by_cases hc : cls l[k] = 2
    · rw [mid_yes l k (by omega) hc]; omega
    · rw [mid_no l k (by omega) hc]; omega
def grK (l : List Pod) (k : Nat) : List Gr := [⟨⟨#[47, 109, 105, 100]⟩, shares (mid l l.length), -1, 0⟩, ⟨⟨#[47, 108, 111, 119]⟩, 2, -1, 0⟩] ++ (l.take k).flatMap fun p => podK p p.conts.length
theorem grK_zero (l : List Pod) : grK l 0 = [⟨⟨#[47, 109, 105, 100]⟩, shares (mid l l.length), -1, 0⟩, ⟨⟨#[47, 108, 111, 119]⟩, 2, -1, 0⟩] := by simp [grK]
theorem grK_next (l : List Pod) (k : Nat) (h : k < l.length) : grK l (k + 1) = grK l k ++ podK l[k] l[k].conts.length := by
  unfold grK
  rw [List.take_succ_eq_append_getElem h, List.flatMap_append, List.append_assoc]
  simp only [List.flatMap_cons, List.flatMap_nil, List.append_nil]
theorem grK_len (l : List Pod) (h : ∀ k (hk : k < l.length), GoodP l[k]) (k : Nat) (hk : k ≤ l.length) : (grK l k).length ≤ 2 + 4 * k := by
  induction k with
  | zero => simp [grK]
  | succ k ih =>
    have h1 := ih (by omega)
    have h2 := (h k (by omega)).len
    rw [grK_next l k (by omega), List.length_append, podK_len _ _ (Nat.le_refl _)]
    omega
def grs (l : List Pod) : List Gr := grK l l.length
theorem shares_le (m : Int) : 2 ≤ shares m ∧ shares m ≤ 262144 := by
  unfold shares
  split
  · omega
  · split <;> omega
theorem capF_le {p : Pod} (h : GoodP p) : (0 ≤ capF Cont.capM p.conts ∧ capF Cont.capM p.conts ≤ 3000000) ∧ (0 ≤ capF Cont.capB p.conts ∧ capF Cont.capB p.conts ≤ 3377699720527872) := by
  have := h.sums p.conts.length (Nat.le_refl _)
  unfold capF
  constructor
  · split <;> omega
  · split <;> omega
theorem pathP_len (p : Pod) : (pathP p).size ≤ 5 + p.name.size := by
  have h5 : (⟨#[47, 108, 111, 119, 47]⟩ : ByteArray).size = 5 := rfl
  have h6 : (⟨#[47, 109, 105, 100, 47]⟩ : ByteArray).size = 5 := rfl
  have h7 : (⟨#[47]⟩ : ByteArray).size = 1 := rfl
  unfold pathP
  split
  · rw [ByteArray.size_append]; omega
  · split
    · rw [ByteArray.size_append]; omega
    · rw [ByteArray.size_append]; omega
end Qo
theorem groupT : ElemT Try.prog 65 69 (.agg #[.string ⟨#[]⟩, .int .i64 0, .int .i64 0, .int .i64 0]) 4 40 := ⟨Try.underlying65, by kernel_rfl, rfl, by omega⟩
def RetGs (l : List Gr) (w : World) (e : Ending) (w' : World) : Prop :=
  ∃ hv, e = .returned hv ∧ w'.ownsRow w.heap.size 69 4 hv l.length (flatG l) ∧ Below w.heap.size w w'
/-- A pod of a slice: its cells. -/
theorem pod_at {w w' : World} {B b off n cap : Nat} {l : List Pod} (h : RSlice w B 3 (RPod w B) [.slice (some ⟨b, off, none⟩) n cap] l) (hb : Below B w w') {k : Nat} (hk : k < l.length) :
    ∃ A2 c2, RPod w' B [.string l[k].name, .int .i64 l[k].prio, .slice A2 l[k].conts.length c2] l[k] ∧ w'.cell? ⟨b, off + k * 3, none⟩ = some (.string l[k].name) ∧ w'.cell? ⟨b, off + k * 3 + 1, none⟩ = some (.int .i64 l[k].prio) ∧
      w'.cell? ⟨b, off + k * 3 + 2, none⟩ = some (.slice A2 l[k].conts.length c2) ∧ l[k].conts.length ≤ c2 ∧ c2 ≤ maxLen ∧ l[k].name.size ≤ maxLen ∧ (∀ i, i < l[k].conts.length → ∃ b off, A2 = some ⟨b, off, none⟩ ∧ b < B) := by
  obtain ⟨hlt, cs', q1, q2, q3⟩ := (h.below hb).at_ hk
  have q3' := q3.below hb
  obtain ⟨A2, c2, e, h1, h2, h3⟩ := podR q3
  obtain ⟨cv, e', _, _, hC⟩ := q3
  obtain ⟨A3, c3, e3, _, _, hA⟩ := RS.form (RS.of hC)
  rw [e] at q2 q3' e'
  have hA2 : A3 = A2 := by
    simp only [List.cons.injEq, and_true, true_and] at e' e3
    rw [e3] at e'
    simp at e'
    exact e'.1.symm
  subst hA2
  exact ⟨A3, c2, q3', q2 0 _ rfl, q2 1 _ rfl, q2 2 _ rfl, h1, h2, h3, hA⟩
end Go.Proofs.Yticmfflnenoplab
