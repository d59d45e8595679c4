/- Numbers sorted (slices.Sort at []int); which devices are taken, as plain data. No statement is proved here. -/
import Derived.Test.YticmfflnenoplabDvF
import Derived.Test.YticmfflnenoplabDvC
import Derived.Sort.OwnSorted
namespace Go.Proofs.Yticmfflnenoplab
open Go.RowKit Dv Mk Go.Sort Go.Shelf
theorem dvIntT : ElemT Try.prog 77 3 (.int .i64 0) 1 8 := ⟨Try.underlying77, by kernel_rfl, rfl, by omega⟩
def dInts (l : List Int) : List Value := l.map (Value.int .i64)
def srt (l : List Int) : List Int := l.mergeSort fun x y => decide (x ≤ y)
theorem srt_len (l : List Int) : (srt l).length = l.length := by simp [srt]
theorem srt_perm (l : List Int) : (srt l).Perm l := List.mergeSort_perm _ _
theorem srt_le (l : List Int) : (srt l).Pairwise fun x y => x ≤ y := by
  have := List.pairwise_mergeSort (le := fun x y : Int => decide (x ≤ y)) (by intro a b c h1 h2; simp at *; omega) (by intro a b; simp; omega) l
  exact this.imp fun h => by simpa using h
/-- Who is sorted and has the same members is the same. -/
theorem srt_eq {l m : List Int} (hp : l.Perm m) (hs : m.Pairwise fun x y => x ≤ y) : srt l = m :=
  List.Perm.eq_of_pairwise (le := fun x y => x ≤ y) (fun a b _ _ h1 h2 => by omega) (srt_le l) hs ((srt_perm l).trans hp)
theorem dInts_at (l : List Int) (k : Nat) (h : k < l.length) : (dInts l)[k]? = some (.int .i64 l[k]) := by
  unfold dInts
  rw [List.getElem?_map, List.getElem?_eq_getElem h]
  rfl
theorem dInts_len (l : List Int) : (dInts l).length = l.length * 1 := by simp [dInts]
theorem dInts_one (l : List Int) : ∀ u ∈ dInts l, u.oneCell' = true := by
  intro u hu
  obtain ⟨x, _, rfl⟩ := List.mem_map.1 hu
  rfl
theorem Sort_own (base : Nat) (v : Value) (xs : List Int) (w : World) (h : w.ownsRow base 3 1 v xs.length (dInts xs)) (hn : xs.length ≤ 1000000) :
    Calls Try.prog 47 #[v] w (fun e w' => e = .returned (.tuple #[]) ∧ w'.ownsRow base 3 1 v xs.length (dInts (srt xs)) ∧ w.grownBy w' v.ownBlock) := by
  rcases h.2 with ⟨rfl, h0⟩ | ⟨g, cap, cur, rfl, hb, hg, h1, h2, h3, h4⟩
  · rw [h0]
    refine (ShelfB.Try.slices_Sort_int_none none 0 w).mono fun e w' ⟨he, hw⟩ => ⟨he, ?_, ?_⟩
    · obtain rfl : xs = [] := List.eq_nil_of_length_eq_zero h0
      subst hw
      have h1 : dInts (srt []) = [] := by simp [srt, dInts]
      rw [h1]
      exact World.ownsRow_nil _ _ _ _
    · subst hw
      exact ⟨rfl, rfl, rfl, Nat.le_refl _, fun _ _ _ => rfl⟩
  · have hgl : g < w.heap.size := (Array.getElem?_eq_some_iff.1 hg).1
    rw [Nat.mul_one] at h3
    have hH : Holds (Value.int .i64) w g 0 xs.toArray := by
      intro j hj
      have hj' : j < xs.length := by simpa using hj
      refine ⟨?_, by simp [World.frozen?, hg]⟩
      have h5 : (cur.toList.take xs.length)[j]? = (dInts xs)[j]? := by rw [← h4, Nat.mul_one]
      rw [List.getElem?_take_of_lt hj', dInts_at xs j hj'] at h5
      simp only [World.cell?, hg, Nat.zero_add]
      rw [Array.getElem?_toList] at h5
      rw [h5]
      simp [hj']
    refine (ShelfB.Try.slices_Sort_int g 0 cap xs w hH hgl (by omega)).mono fun e w' ⟨he, n, os, hw⟩ => ⟨he, ?_, ?_⟩
    · subst hw
      have hbk : (grow (putRow (Value.int .i64) (Sort.ahead w n) g 0 (srt xs).toArray) os).heap[g]? = some (.cells (putCells (Value.int .i64) 0 (srt xs).toArray cur) 3 (0, 0)) := by
        rw [heap_grow_old _ _ (by simpa using hgl)]
        simp [putRow, mapBlock, Sort.ahead, Array.getElem?_modify, hg, onCells]
      refine ⟨by rw [dInts_len, srt_len], .inr ⟨g, cap, _, rfl, hb, hbk, h1, h2, by simp [putCells, h3], ?_⟩⟩
      apply List.ext_getElem?
      intro j
      rw [Nat.mul_one]
      by_cases hj : j < xs.length
      · have hj2 : j < (srt xs).length := by rw [srt_len]; exact hj
        rw [List.getElem?_take_of_lt hj, Array.getElem?_toList, dInts_at _ j hj2]
        simp [putCells, hj2, show j < cur.size by omega]
      · rw [List.getElem?_take_eq_none (by omega), List.getElem?_eq_none (by rw [dInts_len, srt_len]; omega)]
    · subst hw
      refine ⟨rfl, rfl, rfl, by simp, fun k hk hne => ?_⟩
      rw [heap_grow_old _ _ (by simpa using hk)]
      have : g ≠ k := fun e => hne (by rw [e]; rfl)
      simp [putRow, mapBlock, Sort.ahead, Array.getElem?_modify, this]
/-- The first of a row. -/
theorem own_take {w : World} {base : Nat} {e : TypeId} {size n m c : Nat} {A : Option Addr} {xs : List Value} (h : w.ownsRow base e size (.slice A n c) n xs) (hm : m ≤ n) : w.ownsRow base e size (.slice A m c) m (xs.take (m * size)) := by
  have hx := h.1
  have hmn : m * size ≤ n * size := Nat.mul_le_mul_right _ hm
  refine ⟨by simp; omega, ?_⟩
  rcases h.2 with ⟨h1, h2⟩ | ⟨g, cap, cur, h1, h2, h3, h4, h5, h6, h7⟩
  · simp only [Value.slice.injEq] at h1
    obtain ⟨rfl, _, rfl⟩ := h1
    obtain rfl : m = 0 := by omega
    exact .inl ⟨rfl, rfl⟩
  · simp only [Value.slice.injEq, true_and] at h1
    obtain ⟨rfl, rfl⟩ := h1
    refine .inr ⟨g, c, cur, rfl, h2, h3, by omega, h5, h6, ?_⟩
    rw [← h7, List.take_take, Nat.min_eq_left hmn]
namespace Dv
/-- May the device be taken? -/
def want (k : ByteArray) (l : List Dev) (u : List Bool) (i : Nat) : Bool := match l[i]?, u[i]? with
  | some d, some b => hit k d && !b
  | _, _ => false
def nearB (on : Nat) (l : List Dev) (i : Nat) : Bool := match l[i]? with
  | some d => decide (bt on d.node.toNat = 1)
  | none => false
def nears (k : ByteArray) (on : Nat) (l : List Dev) (u : List Bool) (i : Nat) : List Nat := (List.range i).filter fun j => want k l u j && nearB on l j
def fars (k : ByteArray) (on : Nat) (l : List Dev) (u : List Bool) (i : Nat) : List Nat := (List.range i).filter fun j => want k l u j && !nearB on l j
def both (k : ByteArray) (on : Nat) (l : List Dev) (u : List Bool) : List Nat := nears k on l u l.length ++ fars k on l u l.length
def takeF (k : ByteArray) (many : Int) (on : Nat) (l : List Dev) (u : List Bool) : Int := if many < 0 then 1 else if ((both k on l u).length : Int) < many then 9 else 0
def chosen (k : ByteArray) (many : Int) (on : Nat) (l : List Dev) (u : List Bool) : List Int := ((both k on l u).take many.toNat).map Int.ofNat
def takeL (k : ByteArray) (many : Int) (on : Nat) (l : List Dev) (u : List Bool) : List Int := srt (chosen k many on l u)
def takeU (k : ByteArray) (many : Int) (on : Nat) (l : List Dev) (u : List Bool) : List Bool := if takeF k many on l u = 0 then markU u true (chosen k many on l u) else u
theorem want_at {k : ByteArray} {l : List Dev} {u : List Bool} {i : Nat} (hi : i < l.length) (hu : u.length = l.length) : want k l u i = (hit k l[i] && !u[i]'(by omega)) := by
  unfold want
  rw [List.getElem?_eq_getElem hi, List.getElem?_eq_getElem (by omega)]
theorem nearB_at {on : Nat} {l : List Dev} {i : Nat} (hi : i < l.length) : nearB on l i = decide (bt on l[i].node.toNat = 1) := by
  unfold nearB
  rw [List.getElem?_eq_getElem hi]
theorem nears_zero (k : ByteArray) (on : Nat) (l : List Dev) (u : List Bool) : nears k on l u 0 = [] := rfl
theorem fars_zero (k : ByteArray) (on : Nat) (l : List Dev) (u : List Bool) : fars k on l u 0 = [] := rfl
theorem step_none {k : ByteArray} {on : Nat} {l : List Dev} {u : List Bool} {i : Nat} (h : want k l u i = false) : nears k on l u (i + 1) = nears k on l u i ∧ fars k on l u (i + 1) = fars k on l u i := by
  unfold nears fars
  rw [List.range_succ, List.filter_append, List.filter_append]
  simp [h]
theorem step_near {k : ByteArray} {on : Nat} {l : List Dev} {u : List Bool} {i : Nat} (h : want k l u i = true) (h2 : nearB on l i = true) : nears k on l u (i + 1) = nears k on l u i ++ [i] ∧ fars k on l u (i + 1) = fars k on l u i := by
  unfold nears fars
  rw [List.range_succ, List.filter_append, List.filter_append]
  simp [h, h2]
theorem step_far {k : ByteArray} {on : Nat} {l : List Dev} {u : List Bool} {i : Nat} (h : want k l u i = true) (h2 : nearB on l i = false) : nears k on l u (i + 1) = nears k on l u i ∧ fars k on l u (i + 1) = fars k on l u i ++ [i] := by
  unfold nears fars
  rw [List.range_succ, List.filter_append, List.filter_append]
  simp [h, h2]
theorem nears_len (k : ByteArray) (on : Nat) (l : List Dev) (u : List Bool) (i : Nat) : (nears k on l u i).length + (fars k on l u i).length ≤ i := by
  induction i with
  | zero => simp [nears, fars]
  | succ i ih =>
    cases hw : want k l u i
    · have := step_none (on := on) hw
      rw [this.1, this.2]; omega
    · cases hn : nearB on l i
      · have := step_far hw hn
        rw [this.1, this.2]; simp; omega
      · have := step_near hw hn
        rw [this.1, this.2]; simp; omega
theorem nears_lt {k : ByteArray} {on : Nat} {l : List Dev} {u : List Bool} {i x : Nat} (h : x ∈ nears k on l u i) : x < i := List.mem_range.1 (List.mem_filter.1 h).1
theorem fars_lt {k : ByteArray} {on : Nat} {l : List Dev} {u : List Bool} {i x : Nat} (h : x ∈ fars k on l u i) : x < i := List.mem_range.1 (List.mem_filter.1 h).1
theorem both_lt {k : ByteArray} {on : Nat} {l : List Dev} {u : List Bool} {x : Nat} (h : x ∈ both k on l u) : x < l.length := by
  rcases List.mem_append.1 h with h | h
  · exact nears_lt h
  · exact fars_lt h
theorem both_len (k : ByteArray) (on : Nat) (l : List Dev) (u : List Bool) : (both k on l u).length ≤ l.length := by
  have := nears_len k on l u l.length
  simp only [both, List.length_append]
  exact this
theorem chosen_bound {k : ByteArray} {many : Int} {on : Nat} {l : List Dev} {u : List Bool} {x : Int} (h : x ∈ chosen k many on l u) : 0 ≤ x ∧ x < l.length := by
  obtain ⟨y, hy, rfl⟩ := List.mem_map.1 h
  have := both_lt (List.mem_of_mem_take hy)
  simp
  omega
end Dv
end Go.Proofs.Yticmfflnenoplab
