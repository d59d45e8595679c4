/- ostleryref.Merge: its walk where it answers at once; the loops' words. -/
import Derived.Test.YticmfflnenoplaaMergeH
import Derived.Test.YticmfflnenoplaaHintsE
namespace Go.Proofs.Yticmfflnenoplaa
open Go.RowKit Mk

def RetRef (r : Hint × Bool × Int) (w : World) (e : Ending) (w' : World) : Prop := e = .returned (.tuple #[.agg #[.int .u8 r.1.mask, .bool r.1.good], .bool r.2.1, .int .i64 r.2.2]) ∧ Below w.heap.size w w'
section
attribute [local irreducible] mergeP listP MergeP
set_option maxHeartbeats 2000000 in
theorem rMerge_bound (policy : Int) (n : Nat) (l : List Wi) (A : Option Addr) (m c : Nat) (w : World) (h : policy < 0 ∨ 3 < policy ∨ n = 0 ∨ 16 ≤ n) :
    Calls Try.prog 57 #[.int .i64 policy, .int .u8 n, .slice A m c] w (RetRef (MergeP policy n l) w) := by
  rw [top_bound _ _ _ h]
  rcases h with h | h | h | h
  case inr.inr.inl =>
    subst h
    go_enter Try.func57, Try.ntmps57
    go_wp2
    all_goals
      refine bodyPost_ret (v := .tuple #[.agg #[.int .u8 0, .bool false], .bool false, .int .i64 1]) (by simp [results, Try.results57, go_sem]) rfl ⟨rfl, ?_⟩
      repeat (first | exact Below.refl _ _ | refine Below.setCell ?_ (Nat.le_refl _) _ | refine Below.alloc ?_ (Nat.le_refl _) _)
  all_goals
    go_enter Try.func57, Try.ntmps57
    go_wp2
    all_goals
      refine bodyPost_ret (v := .tuple #[.agg #[.int .u8 0, .bool false], .bool false, .int .i64 1]) (by simp [results, Try.results57, go_sem]) rfl ⟨rfl, ?_⟩
      repeat (first | exact Below.refl _ _ | refine Below.setCell ?_ (Nat.le_refl _) _ | refine Below.alloc ?_ (Nat.le_refl _) _)

set_option maxHeartbeats 2000000 in
theorem rMerge_many (policy : Int) (n : Nat) (l : List Wi) (A : Option Addr) (c : Nat) (w : World) (h : ¬ (policy < 0 ∨ 3 < policy ∨ n = 0 ∨ 16 ≤ n)) (hl : 4 < l.length) :
    Calls Try.prog 57 #[.int .i64 policy, .int .u8 n, .slice A l.length c] w (RetRef (MergeP policy n l) w) := by
  rw [top_many _ _ _ h hl]
  have h1 : decide (policy < 0) = false := by simp; omega
  have h2 : decide (3 < policy) = false := by simp; omega
  have h3 : 1 ≤ n := by omega
  have h4 : n < 16 := by omega
  clear h
  go_enter Try.func57, Try.ntmps57
  go_wp2
  refine bodyPost_ret (v := .tuple #[.agg #[.int .u8 0, .bool false], .bool false, .int .i64 2]) (by simp [results, Try.results57, go_sem]) rfl ⟨rfl, ?_⟩
  repeat (first | exact Below.refl _ _ | refine Below.setCell ?_ (Nat.le_refl _) _ | refine Below.alloc ?_ (Nat.le_refl _) _)

set_option maxHeartbeats 2000000 in
theorem rMerge_any0 (n : Nat) (l : List Wi) (A : Option Addr) (c : Nat) (w : World) (h : ¬ ((0 : Int) < 0 ∨ (3 : Int) < 0 ∨ n = 0 ∨ 16 ≤ n)) (hl : ¬ 4 < l.length) :
    Calls Try.prog 57 #[.int .i64 0, .int .u8 n, .slice A l.length c] w (RetRef (MergeP 0 n l) w) := by
  rw [top_any _ _ h hl]
  have h3 : 1 ≤ n := by omega
  have h4 : n < 16 := by omega
  clear h
  go_enter Try.func57, Try.ntmps57
  go_wp2
  refine bodyPost_ret (v := .tuple #[.agg #[.int .u8 n, .bool true], .bool true, .int .i64 0]) (by simp [results, Try.results57, go_sem]) rfl ⟨rfl, ?_⟩
  repeat (first | exact Below.refl _ _ | refine Below.setCell ?_ (Nat.le_refl _) _ | refine Below.alloc ?_ (Nat.le_refl _) _)
end
theorem choices_any (x : Wi) (hl : x.hints.length ≤ 16) (policy : Int) (hp3 : policy ≤ 3) (n : Nat) (hn : n < 256) (A : Option Addr) (m c : Nat) (S : Nat → Prop) (w : World) (hS : ∀ b, S b → b < w.heap.size) (h : RS w S 2 RHint [.slice A m c] x.hints) :
    Calls Try.prog 124 #[.agg #[.bool x.any, .slice A m c], .int .i64 policy, .int .u8 n] w (RetList (listP x policy n) w) := by
  cases hx : x.any
  · have := choices_no x hx hl policy hp3 n hn A m c S w hS h
    rw [hx] at this
    exact this
  · have := choices_yes x hx policy n hn A m c w
    rw [hx] at this
    exact this

/-- The world in the middle of the loops over pairs. -/
structure MI (w wr : World) (so l : List Hint) (sv lv : Value) (p : Nat) (P : List Hint) : Prop where
  below : Below w.heap.size w wr
  lt : w.heap.size < p
  b6 : Blk wr w.heap.size 90 #[.int .u8 0, .bool false]
  own : wr.ownsRow (w.heap.size + 1) 90 2 sv so.length (flatH so)
  rl : RS wr (fun b => b < p) 2 RHint [lv] l
  good : Blk wr p 184 (bArr (has P true))
  bad : Blk wr (p + 1) 184 (bArr (has P false))
theorem MI.later {w wr w' : World} {so l : List Hint} {sv lv : Value} {p : Nat} {P : List Hint} (h : MI w wr so l sv lv p P) (hb : Below wr.heap.size wr w') : MI w w' so l sv lv p P :=
  ⟨h.below.trans (hb.mono h.below.size), h.lt, h.b6.below hb h.b6.lt, own_below h.own hb, RS.move h.rl (fun q hq => hb.block q (Nat.lt_trans hq h.good.lt)) (fun _ h => h) (fun _ _ _ h => h), h.good.below hb h.good.lt, h.bad.below hb h.bad.lt⟩
theorem MI.hit {w wr : World} {so l : List Hint} {sv lv : Value} {p : Nat} {P : List Hint} (h : MI w wr so l sv lv p P) (x : Hint) : MI w (wr.setCell ⟨if x.good then p else p + 1, x.mask, none⟩ (.bool true)) so l sv lv p (P ++ [x]) := by
  have n6 := Blk.ne_ h.b6 h.good (by decide)
  have n6' := Blk.ne_ h.b6 h.bad (by decide)
  have no := own_blk_ne h.own h.good (by decide)
  have no' := own_blk_ne h.own h.bad (by decide)
  have hlt := h.lt
  cases hg : x.good
  · rw [if_neg (by simp)]
    refine ⟨h.below.setCell (by simp; omega) _, h.lt, h.b6.far n6' _, own_kept (S := fun k => k = p + 1) h.own ((Kept.refl _ _).set1 _) (fun k hk he => no' (by rw [hk, he])), ?_, ?_, ?_⟩
    · exact RS.move h.rl (fun q hq => Below.heap_setCell _ _ _ _ (by simp; omega)) (fun _ h => h) (fun _ _ _ h => h)
    · rw [bArr_other P x true (by rw [hg]; simp)]
      exact h.good.far (by simp) _
    · have := h.bad.set_ x.mask (.bool true)
      have hn := bArr_next P x
      rw [hg] at hn
      rw [← hn]
      exact this
  · rw [if_pos rfl]
    refine ⟨h.below.setCell (by simp; omega) _, h.lt, h.b6.far n6 _, own_kept (S := fun k => k = p) h.own ((Kept.refl _ _).set1 _) (fun k hk he => no (by rw [hk, he])), ?_, ?_, ?_⟩
    · exact RS.move h.rl (fun q hq => Below.heap_setCell _ _ _ _ (by simp; omega)) (fun _ h => h) (fun _ _ _ h => h)
    · have := h.good.set_ x.mask (.bool true)
      have hn := bArr_next P x
      rw [hg] at hn
      rw [← hn]
      exact this
    · rw [bArr_other P x false (by rw [hg]; simp)]
      exact h.bad.far (by simp) _
theorem flatH_at2 (l : List Hint) (k : Nat) (h : k < l.length) : (flatH l)[k * 2]? = some (.int .u8 l[k].mask) ∧ (flatH l)[k * 2 + 1]? = some (.bool l[k].good) := flatH_at l k h
theorem bArr_nil : bArr (has [] true) = Array.replicate 256 (.bool false) ∧ bArr (has [] false) = Array.replicate 256 (.bool false) := by
  constructor <;> (apply Array.ext (by simp [bArr]); intro i h1 h2; simp [bArr, has_nil])
end Go.Proofs.Yticmfflnenoplaa
