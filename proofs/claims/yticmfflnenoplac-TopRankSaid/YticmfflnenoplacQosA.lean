/- What pods are, as plain data: names; what is wrong with a pod; its class; what it asks for; groups. No program is named here; no statement is proved here. -/
import Derived.Test.YticmfflnenoplacData
namespace Go.Proofs.Yticmfflnenoplac
namespace Qo
open Da
/-- The first of a function's values that is no 0. -/
def firstF (f : Nat → Int) : Nat → Int
  | 0 => 0
  | k + 1 => if firstF f k = 0 then f k else firstF f k
theorem firstF_zero {f : Nat → Int} {k : Nat} (h : ∀ j, j < k → f j = 0) : firstF f k = 0 := by
  induction k with
  | zero => rfl
  | succ k ih => rw [firstF, if_pos (ih fun j hj => h j (by omega)), h k (by omega)]
theorem firstF_stop {f : Nat → Int} {k n : Nat} (h : ∀ j, j < k → f j = 0) (hk : k < n) (hf : f k ≠ 0) : firstF f n = f k := by
  have h1 : firstF f (k + 1) = f k := by rw [firstF, if_pos (firstF_zero h)]
  induction n with
  | zero => omega
  | succ n ih =>
    by_cases he : k = n
    · subst he; exact h1
    · rw [firstF, ih (by omega), if_neg hf]
theorem firstF_all {f : Nat → Int} {n : Nat} (h : firstF f n = 0) : ∀ j, j < n → f j = 0 := by
  induction n with
  | zero => intro j hj; omega
  | succ n ih =>
    rw [firstF] at h
    split at h
    · rename_i h0
      intro j hj
      by_cases he : j = n
      · rw [he]; exact h
      · exact ih h0 j (by omega)
    · exact absurd h (by assumption)
/-! ### Names -/
def byteAt (s : ByteArray) (i : Nat) : Nat := if h : i < s.size then s[i].toNat else 0
theorem byteAt_eq (s : ByteArray) (i : Nat) (h : i < s.size) : byteAt s i = s[i].toNat := by simp [byteAt, h]
def okAt (s : ByteArray) (i : Nat) : Bool := (decide (97 ≤ byteAt s i) && decide (byteAt s i ≤ 122)) || (decide (0 < i) && decide (48 ≤ byteAt s i) && decide (byteAt s i ≤ 57))
def nameMay (s : ByteArray) : Bool := decide (1 ≤ s.size) && decide (s.size ≤ 8) && (List.range s.size).all (okAt s)
theorem nameMay_no (s : ByteArray) (k : Nat) (h : k < s.size) (hk : okAt s k = false) : nameMay s = false := by
  have : (List.range s.size).all (okAt s) = false := by
    rw [List.all_eq_false]
    exact ⟨k, List.mem_range.2 h, by simp [hk]⟩
  simp [nameMay, this]
theorem nameMay_len (s : ByteArray) (h : s.size < 1 ∨ 8 < s.size) : nameMay s = false := by
  rcases h with h | h <;> simp [nameMay] <;> omega
theorem nameMay_yes (s : ByteArray) (h1 : 1 ≤ s.size) (h2 : s.size ≤ 8) (h : ∀ j, j < s.size → okAt s j = true) : nameMay s = true := by
  simp only [nameMay, h1, h2, decide_true, Bool.true_and]
  rw [List.all_eq_true]
  intro j hj
  exact h j (List.mem_range.1 hj)
/-! ### What is wrong with a pod -/
def amtBad (m b : Int) : Bool := decide (m < 0) || decide (1000000 < m) || decide (b < 0) || decide (1125899906842624 < b)
def amtF (m b : Int) : Int := if amtBad m b then 1 else 0
theorem amtF_yes {m b : Int} (h : amtBad m b = true) : amtF m b = 1 := by simp [amtF, h]
theorem amtF_no {m b : Int} (h : amtBad m b = false) : amtF m b = 0 := by simp [amtF, h]
def lessS (a b : ByteArray) : Bool := Op.bytesLess a.toList b.toList
theorem lessS_eq (a b : ByteArray) : lessS a b = Op.bytesLess a.toList b.toList := rfl
def sameS (a b : ByteArray) : Bool := a.toList == b.toList
def needBad (l : List Need) (k : Nat) (n : Need) : Bool := !nameMay n.kind || (decide (0 < k) && (match l[k - 1]? with | some m => !lessS m.kind n.kind | none => false))
def needFault (l : List Need) (k : Nat) : Int :=
  match l[k]? with
  | none => 0
  | some n => if needBad l k n then 3 else if n.many < 1 ∨ 16 < n.many then 1 else 0
def shapeBad (c : Cont) : Bool := (decide (0 < c.capM) && decide (c.capM < c.askM)) || (decide (0 < c.capB) && decide (c.capB < c.askB))
def contFault (c : Cont) : Int :=
  if amtBad c.askM c.askB || amtBad c.capM c.capB then 1 else if shapeBad c then 3 else if 3 < c.devs.length then 2 else firstF (needFault c.devs) c.devs.length
def twice (l : List Cont) (k : Nat) (s : ByteArray) : Bool := (l.take k).any fun d => sameS d.name s
def atFault (l : List Cont) (k : Nat) : Int :=
  match l[k]? with
  | none => 0
  | some c => if !nameMay c.name then 3 else if twice l k c.name then 5 else contFault c
def podFault (p : Pod) : Int :=
  if !nameMay p.name then 3 else if p.prio < 0 ∨ 1000 < p.prio then 1 else if p.conts.length < 1 ∨ 3 < p.conts.length then 2 else firstF (atFault p.conts) p.conts.length
theorem needFault_at (l : List Need) (k : Nat) (h : k < l.length) : needFault l k = if needBad l k l[k] then 3 else if l[k].many < 1 ∨ 16 < l[k].many then 1 else 0 := by
  simp [needFault, List.getElem?_eq_getElem h]
theorem needFault_bad (l : List Need) (k : Nat) (h : k < l.length) (hb : needBad l k l[k] = true) : needFault l k = 3 := by
  rw [needFault_at l k h, hb]; rfl
theorem needFault_out (l : List Need) (k : Nat) (h : k < l.length) (hb : needBad l k l[k] = false) (ho : l[k].many < 1 ∨ 16 < l[k].many) : needFault l k = 1 := by
  rw [needFault_at l k h, hb, if_neg (by simp), if_pos ho]
theorem needFault_ok (l : List Need) (k : Nat) (h : k < l.length) (hb : needBad l k l[k] = false) (ho : 1 ≤ l[k].many ∧ l[k].many ≤ 16) : needFault l k = 0 := by
  rw [needFault_at l k h, hb, if_neg (by simp), if_neg (by omega)]
theorem needBad_zero (l : List Need) (n : Need) : needBad l 0 n = !nameMay n.kind := by simp [needBad]
theorem needBad_succ (l : List Need) (k : Nat) (h : k < l.length) (n : Need) : needBad l (k + 1) n = (!nameMay n.kind || !lessS l[k].kind n.kind) := by
  simp [needBad, List.getElem?_eq_getElem h]
theorem atFault_at (l : List Cont) (k : Nat) (h : k < l.length) : atFault l k = if !nameMay l[k].name then 3 else if twice l k l[k].name then 5 else contFault l[k] := by
  simp [atFault, List.getElem?_eq_getElem h]
theorem twice_zero (l : List Cont) (s : ByteArray) : twice l 0 s = false := by simp [twice]
theorem twice_next (l : List Cont) (k : Nat) (h : k < l.length) (s : ByteArray) : twice l (k + 1) s = (twice l k s || sameS l[k].name s) := by
  unfold twice
  rw [List.take_succ_eq_append_getElem h, List.any_append]
  simp
theorem twice_mono (l : List Cont) (j k : Nat) (h : j ≤ k) (s : ByteArray) (ht : twice l j s = true) : twice l k s = true := by
  unfold twice at *
  rw [List.any_eq_true] at *
  obtain ⟨x, hx, hy⟩ := ht
  exact ⟨x, List.take_subset_take_left l h hx, hy⟩
theorem needFault_01 (l : List Need) (k : Nat) : needFault l k = 0 ∨ needFault l k = 1 ∨ needFault l k = 3 := by
  unfold needFault
  split
  · simp
  · split
    · simp
    · split <;> simp
end Qo
end Go.Proofs.Yticmfflnenoplac
