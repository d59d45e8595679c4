/- Devices: how many there are on each node: Count, its walk; the reference's pool and its Count. No statement is proved here. -/
import Derived.Test.YticmfflnenoplabHintsA
import Derived.Test.YticmfflnenoplabDvB
namespace Go.Proofs.Yticmfflnenoplab
open Go.RowKit Dv Mk
namespace Dv
def bump (a : A4) : Nat → A4
  | 0 => { a with a0 := a.a0 + 1 }
  | 1 => { a with a1 := a.a1 + 1 }
  | 2 => { a with a2 := a.a2 + 1 }
  | _ => { a with a3 := a.a3 + 1 }
def A4.arr (a : A4) : Array Value := #[.int .i64 a.a0, .int .i64 a.a1, .int .i64 a.a2, .int .i64 a.a3]
theorem arr_val (a : A4) : a.val = .agg (A4.arr a) := rfl
theorem bump_arr (a : A4) (n : Nat) (hn : n < 4) : (A4.arr a).setIfInBounds n (.int .i64 (a.get n + 1)) = A4.arr (bump a n) := by
  obtain ⟨a, b, c, d⟩ := a
  rcases (show n = 0 ∨ n = 1 ∨ n = 2 ∨ n = 3 by omega) with rfl | rfl | rfl | rfl <;> rfl
theorem arr_get (a : A4) (n : Nat) (hn : n < 4) : (A4.arr a)[n]? = some (.int .i64 (a.get n)) := by
  obtain ⟨a, b, c, d⟩ := a
  rcases (show n = 0 ∨ n = 1 ∨ n = 2 ∨ n = 3 by omega) with rfl | rfl | rfl | rfl <;> rfl
def In (a : A4) (k : Nat) : Prop := (0 ≤ a.a0 ∧ a.a0 ≤ k) ∧ (0 ≤ a.a1 ∧ a.a1 ≤ k) ∧ (0 ≤ a.a2 ∧ a.a2 ≤ k) ∧ (0 ≤ a.a3 ∧ a.a3 ≤ k)
theorem In.get {a : A4} {k : Nat} (h : In a k) (n : Nat) : 0 ≤ a.get n ∧ a.get n ≤ k := by
  obtain ⟨h0, h1, h2, h3⟩ := h
  unfold A4.get
  split <;> assumption
theorem In.more {a : A4} {k : Nat} (h : In a k) : In a (k + 1) := by
  obtain ⟨h0, h1, h2, h3⟩ := h
  refine ⟨?_, ?_, ?_, ?_⟩ <;> omega
theorem In.bump {a : A4} {k : Nat} (h : In a k) (n : Nat) : In (bump a n) (k + 1) := by
  obtain ⟨h0, h1, h2, h3⟩ := h
  unfold Dv.bump
  split <;> (refine ⟨?_, ?_, ?_, ?_⟩ <;> dsimp only <;> omega)
def cnt (k : ByteArray) (ps : List (Dev × Bool)) : A4 := ps.foldl (fun a p => if hit k p.1 && p.2 then bump a p.1.node.toNat else a) ⟨0, 0, 0, 0⟩
/-- Each with: does it count? -/
def withAll (l : List Dev) : List (Dev × Bool) := l.map fun d => (d, true)
def withFree (l : List Dev) (u : List Bool) : List (Dev × Bool) := l.zip (u.map (!·))
def cAll (k : ByteArray) (l : List Dev) : A4 := cnt k (withAll l)
def cFree (k : ByteArray) (l : List Dev) (u : List Bool) : A4 := cnt k (withFree l u)
theorem cnt_succ (k : ByteArray) (ps : List (Dev × Bool)) (i : Nat) (hi : i < ps.length) : cnt k (ps.take (i + 1)) = if hit k ps[i].1 && ps[i].2 then bump (cnt k (ps.take i)) ps[i].1.node.toNat else cnt k (ps.take i) := by
  unfold cnt
  rw [List.take_succ_eq_append_getElem hi, List.foldl_append]
  rfl
theorem cnt_in (k : ByteArray) (ps : List (Dev × Bool)) (i : Nat) (hi : i ≤ ps.length) : In (cnt k (ps.take i)) i := by
  induction i with
  | zero => exact ⟨⟨by simp [cnt], by simp [cnt]⟩, ⟨by simp [cnt], by simp [cnt]⟩, ⟨by simp [cnt], by simp [cnt]⟩, ⟨by simp [cnt], by simp [cnt]⟩⟩
  | succ i ih =>
    rw [cnt_succ k ps i (by omega)]
    split
    · exact (ih (by omega)).bump _
    · exact (ih (by omega)).more
theorem withFree_len (l : List Dev) (u : List Bool) (h : u.length = l.length) : (withFree l u).length = l.length := by simp [withFree, h]
theorem withFree_at (l : List Dev) (u : List Bool) (h : u.length = l.length) (i : Nat) (hi : i < l.length) : (withFree l u)[i]'(by rw [withFree_len l u h]; exact hi) = (l[i], !u[i]'(by omega)) := by simp [withFree]
theorem withAll_at (l : List Dev) (i : Nat) (hi : i < l.length) : (withAll l)[i]'(by simpa [withAll] using hi) = (l[i], true) := by simp [withAll]
/-- How many up to i. -/
def all_ (k : ByteArray) (l : List Dev) (i : Nat) : A4 := cnt k ((withAll l).take i)
def free_ (k : ByteArray) (l : List Dev) (u : List Bool) (i : Nat) : A4 := cnt k ((withFree l u).take i)
theorem all_zero (k : ByteArray) (l : List Dev) : all_ k l 0 = ⟨0, 0, 0, 0⟩ := rfl
theorem free_zero (k : ByteArray) (l : List Dev) (u : List Bool) : free_ k l u 0 = ⟨0, 0, 0, 0⟩ := rfl
theorem all_full (k : ByteArray) (l : List Dev) : all_ k l l.length = cAll k l := by unfold all_ cAll; rw [List.take_of_length_le (by simp [withAll])]
theorem free_full (k : ByteArray) (l : List Dev) (u : List Bool) (h : u.length = l.length) : free_ k l u l.length = cFree k l u := by unfold free_ cFree; rw [List.take_of_length_le (by rw [withFree_len l u h]; exact Nat.le_refl _)]
theorem all_in (k : ByteArray) (l : List Dev) (i : Nat) (hi : i ≤ l.length) : In (all_ k l i) i := cnt_in k _ i (by simpa [withAll] using hi)
theorem free_in (k : ByteArray) (l : List Dev) (u : List Bool) (h : u.length = l.length) (i : Nat) (hi : i ≤ l.length) : In (free_ k l u i) i := cnt_in k _ i (by rw [withFree_len l u h]; exact hi)
theorem all_hit (k : ByteArray) (l : List Dev) (i : Nat) (hi : i < l.length) (h : hit k l[i] = true) : all_ k l (i + 1) = bump (all_ k l i) l[i].node.toNat := by
  unfold all_
  rw [cnt_succ k _ i (by simpa [withAll] using hi), withAll_at l i hi]
  simp [h]
theorem all_miss (k : ByteArray) (l : List Dev) (i : Nat) (hi : i < l.length) (h : hit k l[i] = false) : all_ k l (i + 1) = all_ k l i := by
  unfold all_
  rw [cnt_succ k _ i (by simpa [withAll] using hi), withAll_at l i hi]
  simp [h]
theorem free_hit (k : ByteArray) (l : List Dev) (u : List Bool) (hu : u.length = l.length) (i : Nat) (hi : i < l.length) (h : hit k l[i] = true) (h2 : u[i]'(by omega) = false) : free_ k l u (i + 1) = bump (free_ k l u i) l[i].node.toNat := by
  unfold free_
  rw [cnt_succ k _ i (by rw [withFree_len l u hu]; exact hi), withFree_at l u hu i hi]
  simp [h, h2]
theorem free_miss (k : ByteArray) (l : List Dev) (u : List Bool) (hu : u.length = l.length) (i : Nat) (hi : i < l.length) (h : hit k l[i] = false ∨ u[i]'(by omega) = true) : free_ k l u (i + 1) = free_ k l u i := by
  unfold free_
  rw [cnt_succ k _ i (by rw [withFree_len l u hu]; exact hi), withFree_at l u hu i hi]
  rcases h with h | h <;> simp [h]
theorem hit_kind {k : ByteArray} {d : Dev} (h : (d.kind.toList == k.toList) = false) : hit k d = false := by simp [hit, h]
theorem hit_sick {k : ByteArray} {d : Dev} (h : d.sick = true) : hit k d = false := by simp [hit, h]
theorem hit_yes {k : ByteArray} {d : Dev} (h : (d.kind.toList == k.toList) = true) (h2 : d.sick = false) : hit k d = true := by simp [hit, h, h2]
end Dv
theorem four_set {w : World} {g : Nat} {t : TypeId} {x : A4} (h : Blk w g t (A4.arr x)) (a b c d : Int) : Blk ((((w.setCell ⟨g, 0, none⟩ (.int .i64 a)).setCell ⟨g, 1, none⟩ (.int .i64 b)).setCell ⟨g, 2, none⟩ (.int .i64 c)).setCell ⟨g, 3, none⟩ (.int .i64 d)) g t (A4.arr ⟨a, b, c, d⟩) :=
  (h.set_ 0 _ |>.set_ 1 _ |>.set_ 2 _ |>.set_ 3 _).cast rfl
def CountP (f a : A4) (w : World) (e : Ending) (w' : World) : Prop := e = .returned (.tuple #[f.val, a.val]) ∧ Below w.heap.size w w'
section
attribute [local irreducible] all_ free_ hit bump
end
end Go.Proofs.Yticmfflnenoplab
