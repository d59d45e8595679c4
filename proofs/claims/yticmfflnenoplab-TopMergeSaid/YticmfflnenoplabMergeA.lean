/- Merge of wishes, as plain data: what the program's walk through the hints comes to. -/
import Derived.Test.YticmfflnenoplabHintsB
namespace Go.Proofs.Yticmfflnenoplab
open Go.RowKit Mk

namespace Mk
structure Wi where
  any : Bool
  hints : List Hint
def Hint.val (h : Hint) : Value := .agg #[.int .u8 h.mask, .bool h.good]
theorem nodes_le (m : Nat) : nodes m ≤ 8 := nsum_le m 8
def better (a b : Hint) : Bool := if a.good != b.good then a.good else if nodes a.mask ≠ nodes b.mask then decide (nodes a.mask < nodes b.mask) else decide (a.mask < b.mask)
def lets (policy : Int) (h : Hint) : Bool := policy != 3 || h.good && nodes h.mask == 1
def listP (x : Wi) (policy : Int) (n : Nat) : List Hint :=
  if x.any then [⟨n, true⟩] else if x.hints.filter (lets policy) = [] then [⟨n, false⟩] else x.hints.filter (lets policy)
def mergeP : List (List Hint) → Hint → Hint → Hint
  | l, so, best => if so.mask = 0 then best else match l with
    | [] => if better so best then so else best
    | x :: xs => x.foldl (fun b h => mergeP xs ⟨so.mask &&& h.mask, so.good && h.good⟩ b) best
def MergeP (policy : Int) (n : Nat) (l : List Wi) : Hint × Bool × Int :=
  if policy < 0 ∨ 3 < policy ∨ n = 0 ∨ 16 ≤ n then (⟨0, false⟩, false, 1)
  else if 4 < l.length then (⟨0, false⟩, false, 2)
  else if policy = 0 then (⟨n, true⟩, true, 0)
  else let b := mergeP (l.map fun x => listP x policy n) ⟨n, true⟩ ⟨n, false⟩; (b, b.good || policy == 1, 0)
theorem mergeP_zero (l : List (List Hint)) (so best : Hint) (h : so.mask = 0) : mergeP l so best = best := by
  unfold mergeP
  rw [if_pos h]
theorem mergeP_nil (so best : Hint) (h : so.mask ≠ 0) : mergeP [] so best = if better so best then so else best := by
  unfold mergeP
  rw [if_neg h]
theorem mergeP_cons (x : List Hint) (xs : List (List Hint)) (so best : Hint) (h : so.mask ≠ 0) : mergeP (x :: xs) so best = x.foldl (fun b h => mergeP xs ⟨so.mask &&& h.mask, so.good && h.good⟩ b) best := by
  conv => lhs; unfold mergeP
  rw [if_neg h]
theorem and_lt (a b : Nat) (ha : a < 256) : a &&& b < 256 := Nat.lt_of_le_of_lt Nat.and_le_left ha
theorem mergeP_lt : ∀ (l : List (List Hint)) (so best : Hint), so.mask < 256 → best.mask < 256 → (mergeP l so best).mask < 256
  | l, so, best, h1, h2 => by
    by_cases hz : so.mask = 0
    · rw [mergeP_zero _ _ _ hz]; exact h2
    · match l with
      | [] =>
        rw [mergeP_nil _ _ hz]
        split
        · exact h1
        · exact h2
      | x :: xs =>
        rw [mergeP_cons _ _ _ _ hz]
        have : ∀ (y : List Hint) (b : Hint), b.mask < 256 → (y.foldl (fun b h => mergeP xs ⟨so.mask &&& h.mask, so.good && h.good⟩ b) b).mask < 256 := by
          intro y
          induction y with
          | nil => exact fun b h => h
          | cons h y ih => exact fun b hb => ih _ (mergeP_lt xs _ _ (and_lt _ _ h1) hb)
        exact this x best h2
/-- What has come of the first i hints. -/
def mergeAt (xs : List (List Hint)) (so : Hint) (x : List Hint) (best : Hint) (i : Nat) : Hint := (x.take i).foldl (fun b h => mergeP xs ⟨so.mask &&& h.mask, so.good && h.good⟩ b) best
theorem mergeAt_zero (xs : List (List Hint)) (so : Hint) (x : List Hint) (best : Hint) : mergeAt xs so x best 0 = best := rfl
theorem mergeAt_next (xs : List (List Hint)) (so : Hint) (x : List Hint) (best : Hint) (i : Nat) (h : i < x.length) : mergeAt xs so x best (i + 1) = mergeP xs ⟨so.mask &&& x[i].mask, so.good && x[i].good⟩ (mergeAt xs so x best i) := by
  unfold mergeAt
  rw [List.take_succ_eq_append_getElem h, List.foldl_append]
  rfl
theorem mergeAt_full (xs : List (List Hint)) (so : Hint) (x : List Hint) (best : Hint) (h : so.mask ≠ 0) : mergeAt xs so x best x.length = mergeP (x :: xs) so best := by
  rw [mergeP_cons _ _ _ _ h]
  unfold mergeAt
  rw [List.take_length]
theorem mergeAt_lt (xs : List (List Hint)) (so : Hint) (x : List Hint) (best : Hint) (i : Nat) (h1 : so.mask < 256) (h2 : best.mask < 256) : (mergeAt xs so x best i).mask < 256 := by
  unfold mergeAt
  have : ∀ (y : List Hint) (b : Hint), b.mask < 256 → (y.foldl (fun b h => mergeP xs ⟨so.mask &&& h.mask, so.good && h.good⟩ b) b).mask < 256 := by
    intro y
    induction y with
    | nil => exact fun b h => h
    | cons h y ih => exact fun b hb => ih _ (mergeP_lt xs _ _ (and_lt _ _ h1) hb)
  exact this _ best h2
end Mk
end Go.Proofs.Yticmfflnenoplab
