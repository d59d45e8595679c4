/- hints.For: the walk: it returns the hints of the plain law. -/
import Derived.Test.YticmfflnenoplabHintsB
import Derived.Deep.CutBlock
import Derived.Test.YticmfflnenoplabComm
namespace Go.Proofs.Yticmfflnenoplab
open Go.RowKit Mk

theorem hintT : ElemT Try.prog 30 25 (.agg #[.int .u8 0, .bool false]) 2 2 := ⟨Try.underlying30, by kernel_rfl, rfl, by omega⟩

def RetWish (any : Bool) (l : List Hint) (w : World) (e : Ending) (w' : World) : Prop :=
  ∃ hv, e = .returned (.agg #[.bool any, hv]) ∧ w'.ownsRow w.heap.size 25 2 hv l.length (flatH l) ∧ Below w.heap.size w w'

def flatM (l : List Nat) : List Value := l.flatMap fun (x : Nat) => [Value.int .u8 (x : Int), Value.bool false]
theorem narrow_one (all : A4) (n : Nat) (many : Int) (hm : 0 < many) : narrow all n many 1 = 5 := by
  have : over 0 all = 0 := by simp [over, psum, bt]
  have h : ¬ many ≤ 0 := by omega
  simp [narrow, condA, this, h]
theorem masks_one (free : A4) (n : Nat) (many : Int) (hm : 0 < many) : masks free n many 1 = [] := by
  have : over 0 free = 0 := by simp [over, psum, bt]
  have h : ¬ many ≤ 0 := by omega
  simp [masks, condA, this, h]
theorem masks_len (free : A4) (n : Nat) (many : Int) (k : Nat) : (masks free n many k).length ≤ k := by
  induction k with
  | zero => simp [masks]
  | succ k ih => simp only [masks, List.length_append]; split <;> simp <;> omega
/-- The row when the first i of the hints have been looked at. -/
def rowAt (all : A4) (n : Nat) (many : Int) (ms : List Nat) (i : Nat) : List Value := flatH ((ms.take i).map fun k => ⟨k, goodP all n many k⟩) ++ flatM (ms.drop i)
theorem flatH_len (l : List Hint) : (flatH l).length = l.length * 2 := by
  induction l with
  | nil => rfl
  | cons h l ih => simp only [flatH, List.flatMap_cons, List.length_append] at ih ⊢; rw [ih]; simp [Hint.cells]; omega
theorem rowAt_mask (all : A4) (n : Nat) (many : Int) (ms : List Nat) (i : Nat) (hi : i < ms.length) : (rowAt all n many ms i)[i * 2]? = some (.int .u8 (ms[i] : Int)) := by
  unfold rowAt
  rw [List.getElem?_append_right (by rw [flatH_len]; simp; omega), flatH_len, List.drop_eq_getElem_cons hi]
  simp [flatM, Nat.min_eq_left (Nat.le_of_lt hi), -List.getElem_cons_drop]
theorem rowAt_next (all : A4) (n : Nat) (many : Int) (ms : List Nat) (i : Nat) (hi : i < ms.length) : (rowAt all n many ms i).set (i * 2 + 1) (.bool (goodP all n many ms[i])) = rowAt all n many ms (i + 1) := by
  unfold rowAt
  have hl : (flatH ((ms.take i).map fun k => (⟨k, goodP all n many k⟩ : Hint))).length = i * 2 := by rw [flatH_len]; simp; omega
  rw [List.set_append_right _ _ (by omega), hl, List.take_succ_eq_append_getElem hi, List.drop_eq_getElem_cons hi]
  simp [flatM, flatH, Hint.cells, show i * 2 + 1 - i * 2 = 1 from by omega, -List.getElem_cons_drop, -List.take_append_getElem]
theorem rowAt_zero (all : A4) (n : Nat) (many : Int) (ms : List Nat) : rowAt all n many ms 0 = flatM ms := by simp [rowAt, flatH]
theorem rowAt_full (free all : A4) (n : Nat) (hn : n < 16) (many : Int) : rowAt all n many (masks free n many (n + 1)) (masks free n many (n + 1)).length = flatH (hintsOf free all n many) := by
  rw [← hints_p free all n hn many]
  simp [rowAt, flatM]
theorem hintsOf_len (free all : A4) (n : Nat) (hn : n < 16) (many : Int) : (hintsOf free all n many).length = (masks free n many (n + 1)).length := by
  rw [← hints_p free all n hn many]
  simp
theorem u8_conv (k : Nat) (hk : k < 256) : IntKind.u8.wrap (k : Int) = (k : Int) := by rw [IntKind.wrap_u8']; omega

theorem flatM_nil : flatM [] = [] := rfl
theorem goodP_def (all : A4) (n : Nat) (many : Int) (x : Nat) : goodP all n many x = (decide (nodes x = narrow all n many (n + 1)) && decide (many ≤ over x all)) := rfl
section
attribute [local irreducible] narrow masks over nodes goodP hintsOf flatM rowAt flatH sub
end
end Go.Proofs.Yticmfflnenoplab
