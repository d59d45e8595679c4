/- hints.Merge: its walk. -/
import Derived.Test.YticmfflnenoplabMergeC
namespace Go.Proofs.Yticmfflnenoplab
open Go.RowKit Mk

def RWish (w : World) (S : Nat → Prop) (cs : List Value) (x : Wi) : Prop := ∃ hv, cs = [.bool x.any, hv] ∧ RS w S 2 RHint [hv] x.hints
/-- A place, is it let in, an error. -/
def RetPlace (r : Hint × Bool × Int) (w : World) (e : Ending) (w' : World) : Prop := e = .returned (.tuple #[.agg #[.int .u8 r.1.mask, .bool r.1.good], .bool r.2.1, errV r.2.2]) ∧ Below w.heap.size w w'
theorem rowsT : ElemT Try.prog 91 30 (.slice none 0 0) 1 24 := ⟨Try.underlying91, by kernel_rfl, rfl, by omega⟩
theorem RS.rows {α : Type} {w : World} {S : Nat → Prop} {R : List Value → α → Prop} {base : Nat} {e : TypeId} {v : Value} {vs : List Value} {l : List α} (hl : vs.length = l.length) (h : w.ownsRow base e 1 v l.length vs) (hR : ∀ i (hi : i < l.length), R [vs[i]'(by omega)] l[i]) (hS : ∀ g, v.ownBlock = some g → S g) : RS w S 1 R [v] l := by
  obtain ⟨A, cap, rfl, h1, h2, h3⟩ := own_form h
  refine ⟨A, cap, rfl, h1, h2, ?_⟩
  by_cases hz : l.length = 0
  · exact .inl hz
  · obtain ⟨g, rfl, _, _⟩ := h3 (by omega)
    refine .inr ⟨g, 0, rfl, hS g rfl, fun i hi => ⟨[vs[i]'(by omega)], rfl, fun j u hu => ?_, hR i hi⟩⟩
    have hj : j = 0 := by
      have := (List.getElem?_eq_some_iff.1 hu).1
      simp at this
      exact this
    subst hj
    have hlt : i < l.length * 1 := by omega
    rw [Nat.zero_add, Nat.mul_one, Nat.add_zero, h.cellAt i hlt]
    simp only [List.getElem?_cons_zero, Option.some.injEq] at hu
    rw [← hu]
    exact List.getElem?_eq_getElem (by omega)
theorem list_any (x : Wi) (hl : x.hints.length ≤ 16) (policy : Int) (n : Nat) (hn : n < 256) (A : Option Addr) (m c : Nat) (S : Nat → Prop) (w : World) (hS : ∀ b, S b → b < w.heap.size) (h : RS w S 2 RHint [.slice A m c] x.hints) :
    Calls Try.prog 31 #[.agg #[.bool x.any, .slice A m c], .int .i64 policy, .int .u8 n] w (RetList (listP x policy n) w) := by
  cases hx : x.any
  · rw [← hx]; exact list_no x hx hl policy n hn A m c S w hS h
  · rw [← hx]; exact list_yes x hx policy n hn A m c w

theorem top_bound (policy : Int) (n : Nat) (l : List Wi) (h : policy < 0 ∨ 3 < policy ∨ n = 0 ∨ 16 ≤ n) : MergeP policy n l = (⟨0, false⟩, false, 1) := by unfold MergeP; rw [if_pos h]
theorem top_many (policy : Int) (n : Nat) (l : List Wi) (h : ¬ (policy < 0 ∨ 3 < policy ∨ n = 0 ∨ 16 ≤ n)) (hl : 4 < l.length) : MergeP policy n l = (⟨0, false⟩, false, 2) := by unfold MergeP; rw [if_neg h, if_pos hl]
theorem top_any (n : Nat) (l : List Wi) (h : ¬ ((0 : Int) < 0 ∨ (3 : Int) < 0 ∨ n = 0 ∨ 16 ≤ n)) (hl : ¬ 4 < l.length) : MergeP 0 n l = (⟨n, true⟩, true, 0) := by unfold MergeP; rw [if_neg h, if_neg hl, if_pos rfl]
theorem top_rest (policy : Int) (n : Nat) (l : List Wi) (h : ¬ (policy < 0 ∨ 3 < policy ∨ n = 0 ∨ 16 ≤ n)) (hl : ¬ 4 < l.length) (hp : policy ≠ 0) : MergeP policy n l = (mergeP (l.map fun x => listP x policy n) ⟨n, true⟩ ⟨n, false⟩, (mergeP (l.map fun x => listP x policy n) ⟨n, true⟩ ⟨n, false⟩).good || policy == 1, 0) := by unfold MergeP; rw [if_neg h, if_neg hl, if_neg hp]

section
attribute [local irreducible] mergeP listP MergeP
set_option maxHeartbeats 2000000 in
theorem Merge_bound (policy : Int) (n : Nat) (l : List Wi) (A : Option Addr) (m c : Nat) (w : World) (h : policy < 0 ∨ 3 < policy ∨ n = 0 ∨ 16 ≤ n) :
    Calls Try.prog 8 #[.int .i64 policy, .int .u8 n, .slice A m c] w (RetPlace (MergeP policy n l) w) := by
  rw [top_bound _ _ _ h]
  rcases h with h | h | h | h
  case inr.inr.inl =>
    subst h
    go_enter Try.func8, Try.ntmps8
    go_wp2
    all_goals
      refine bodyPost_ret (v := .tuple #[.agg #[.int .u8 0, .bool false], .bool false, .iface 90 (.int .i64 1)]) (by simp [results, Try.results8, go_sem]) rfl ⟨rfl, ?_⟩
      repeat (first | exact Below.refl _ _ | refine Below.setCell ?_ (Nat.le_refl _) _ | refine Below.alloc ?_ (Nat.le_refl _) _)
  all_goals
    go_enter Try.func8, Try.ntmps8
    go_wp2
    all_goals
      refine bodyPost_ret (v := .tuple #[.agg #[.int .u8 0, .bool false], .bool false, .iface 90 (.int .i64 1)]) (by simp [results, Try.results8, go_sem]) rfl ⟨rfl, ?_⟩
      repeat (first | exact Below.refl _ _ | refine Below.setCell ?_ (Nat.le_refl _) _ | refine Below.alloc ?_ (Nat.le_refl _) _)

set_option maxHeartbeats 2000000 in
theorem Merge_many (policy : Int) (n : Nat) (l : List Wi) (A : Option Addr) (c : Nat) (w : World) (h : ¬ (policy < 0 ∨ 3 < policy ∨ n = 0 ∨ 16 ≤ n)) (hl : 4 < l.length) :
    Calls Try.prog 8 #[.int .i64 policy, .int .u8 n, .slice A l.length c] w (RetPlace (MergeP policy n l) w) := by
  rw [top_many _ _ _ h hl]
  have h1 : decide (policy < 0) = false := by simp; omega
  have h2 : decide (3 < policy) = false := by simp; omega
  have h3 : ((n : Int) == 0) = false := by rw [beq_eq_false_iff_ne]; omega
  have h4 : n < 16 := by omega
  clear h
  go_enter Try.func8, Try.ntmps8
  go_wp2
  refine bodyPost_ret (v := .tuple #[.agg #[.int .u8 0, .bool false], .bool false, .iface 90 (.int .i64 2)]) (by simp [results, Try.results8, go_sem]) rfl ⟨rfl, ?_⟩
  repeat (first | exact Below.refl _ _ | refine Below.setCell ?_ (Nat.le_refl _) _ | refine Below.alloc ?_ (Nat.le_refl _) _)

set_option maxHeartbeats 2000000 in
theorem Merge_any0 (n : Nat) (l : List Wi) (A : Option Addr) (c : Nat) (w : World) (h : ¬ ((0 : Int) < 0 ∨ (3 : Int) < 0 ∨ n = 0 ∨ 16 ≤ n)) (hl : ¬ 4 < l.length) :
    Calls Try.prog 8 #[.int .i64 0, .int .u8 n, .slice A l.length c] w (RetPlace (MergeP 0 n l) w) := by
  rw [top_any _ _ h hl]
  have h3 : ((n : Int) == 0) = false := by rw [beq_eq_false_iff_ne]; omega
  have h4 : n < 16 := by omega
  clear h
  go_enter Try.func8, Try.ntmps8
  go_wp2
  refine bodyPost_ret (v := .tuple #[.agg #[.int .u8 n, .bool true], .bool true, .nilIface]) (by simp [results, Try.results8, go_sem]) rfl ⟨rfl, ?_⟩
  repeat (first | exact Below.refl _ _ | refine Below.setCell ?_ (Nat.le_refl _) _ | refine Below.alloc ?_ (Nat.le_refl _) _)
end
end Go.Proofs.Yticmfflnenoplab
