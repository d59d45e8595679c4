/- Who goes first: the reference's used and first: their walks. No statement is proved here. -/
import Derived.Test.YticmfflnenoplacEvE
namespace Go.Proofs.Yticmfflnenoplac
open Go.RowKit Go.Deep Da Qo Ev
namespace Ev
/-- The reference's comparison. -/
def firstB (xo yo xp yp : Int) (xn yn : ByteArray) : Bool := if decide (0 < xo) != decide (0 < yo) then decide (0 < xo) else if xp ≠ yp then decide (xp < yp) else if xo ≠ yo then decide (yo < xo) else lessS xn yn
theorem first_lt {us : List Use} {p q : Pod} (hp : Fit us p) (hq : Fit us q) : ltB (rowOf us p) (rowOf us q) = firstB (usedF p.name us - askedB p) (usedF q.name us - askedB q) p.prio q.prio p.name q.name := by
  rw [Bool.eq_iff_iff, ltB_iff, hp.row, hq.row]
  unfold Lt firstB
  simp only []
  generalize usedF p.name us - askedB p = x
  generalize usedF q.name us - askedB q = y
  by_cases h1 : 0 < x <;> by_cases h2 : 0 < y
  · simp only [h1, h2, if_true, decide_true, bne_self_eq_false, Bool.false_eq_true, if_false]
    by_cases h3 : p.prio = q.prio
    · by_cases h4 : x = y
      · simp [h3, h4]
      · simp [h3, h4, Ne.symm h4]
    · simp [h3]
  · simp [h1, h2]
  · simp [h1, h2]
  · simp only [h1, h2, if_false, decide_false, bne_self_eq_false, Bool.false_eq_true]
    by_cases h3 : p.prio = q.prio
    · by_cases h4 : x = y
      · simp [h3, h4]
      · simp [h3, h4, Ne.symm h4]
    · simp [h3]
end Ev
namespace Ev
theorem fb_over {xo yo xp yp : Int} {xn yn : ByteArray} (h : (decide (0 < xo) != decide (0 < yo)) = true) : firstB xo yo xp yp xn yn = decide (0 < xo) := by simp only [firstB, h, if_true]
theorem fb_prio {xo yo xp yp : Int} {xn yn : ByteArray} (h : (decide (0 < xo) != decide (0 < yo)) = false) (h2 : xp ≠ yp) : firstB xo yo xp yp xn yn = decide (xp < yp) := by simp only [firstB, h, Bool.false_eq_true, if_false, ne_eq, h2, not_false_eq_true, if_true]
theorem fb_more {xo yo xp : Int} {xn yn : ByteArray} (h : (decide (0 < xo) != decide (0 < yo)) = false) (h2 : xo ≠ yo) : firstB xo yo xp xp xn yn = decide (yo < xo) := by simp only [firstB, h, Bool.false_eq_true, if_false, ne_eq, h2, not_false_eq_true, if_true, not_true_eq_false]
theorem fb_name {xo xp : Int} {xn yn : ByteArray} : firstB xo xo xp xp xn yn = lessS xn yn := by simp [firstB]
end Ev
theorem RetBB.of_ {b b' : Bool} {w w' : World} (h : b = b') (hb : Below w.heap.size w w') : RetBB b w (.returned (.bool b')) w' := ⟨by rw [h], hb⟩
def podC (p : Pod) (A : Option Addr) (n c : Nat) : Array Value := #[.string p.name, .int .i64 p.prio, .slice A n c]
section
attribute [local irreducible] usedF rowOf askedB askedM RPod RCont ltB
end
end Go.Proofs.Yticmfflnenoplac
