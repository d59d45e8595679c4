/- EngineSays: a run written into the row, four cells at once. No statement is proved here. -/
import Derived.Test.YticmfflnenoplaaEnJ
import Derived.Deep.MidRow
namespace Go.Proofs.Yticmfflnenoplaa
open Go.RowKit
theorem ownCells4 {w : World} {base g n cap : Nat} {l : List En.Run} (h : w.ownsRow base 117 4 (.slice (some ⟨g, 0, none⟩) n cap) n (En.flatR l)) (k : Nat) (hk : k < l.length) (p c : ByteArray) (u : Int) (d : List Int) (A : Option Addr) (dc m : Nat) (hm : m = d.length) :
    (w.setCells g (k * 4) #[.string p, .string c, .int .u64 u, .slice A m dc].toList).ownsRow base 117 4 (.slice (some ⟨g, 0, none⟩) n cap) n (En.flatR (l.set k ⟨p, c, u, d, A, dc⟩)) := by
  subst hm
  exact own_set4 h k hk ⟨p, c, u, d, A, dc⟩
theorem keptCells4 {a w : World} {g : Nat} (h : Kept (fun q => q = g) a w) (o : Nat) (v0 v1 v2 v3 : Value) : Kept (fun q => q = g) a (w.setCells g o #[v0, v1, v2, v3].toList) :=
  kept_set4 h _ _ _ _ _ _ _ _
theorem there4 {w : World} {base g n cap : Nat} {l : List En.Run} (h : w.ownsRow base 117 4 (.slice (some ⟨g, 0, none⟩) n cap) n (En.flatR l)) {k : Nat} {r : En.Run} (hk : l[k]? = some r) (v0 v1 v2 v3 : Value) : w.there g (k * 4) #[v0, v1, v2, v3].size := by
  obtain ⟨a0, a1, a2, a3⟩ := row4 h hk
  intro j hj
  refine ⟨?_, h.frozenAt _⟩
  rcases (show j = 0 ∨ j = 1 ∨ j = 2 ∨ j = 3 by simp at hj; omega) with rfl | rfl | rfl | rfl
  · rw [Nat.add_zero, a0]; rfl
  · rw [a1]; rfl
  · rw [a2]; rfl
  · rw [a3]; rfl
theorem own_drewN {w : World} {base k n : Nat} {t : TypeId} {v : Value} {cs : List Value} (h : w.ownsRow base t k v n cs) (m : Nat) : (w.drewN m).ownsRow base t k v n cs := h
theorem swap_own {w : World} {base g n cap u : Nat} {lr : List En.Run} {str nm xp xc : ByteArray} {X xx : Int} {xl xd : List Int} {A5 xA : Option Addr} {c5 xdc : Nat}
    (h : w.ownsRow base 117 4 (.slice (some ⟨g, 0, none⟩) n cap) n (En.flatR (En.insR lr (u + 1) ⟨str, nm, X, xl, A5, c5⟩))) (ht : u + 1 ≤ lr.length) (hx : lr[u]? = some ⟨xp, xc, xx, xd, xA, xdc⟩) :
    ((((((((w.setCell ⟨g, (u + 1) * 4, none⟩ (.string xp)).setCell ⟨g, (u + 1) * 4 + 1, none⟩ (.string xc)).setCell ⟨g, (u + 1) * 4 + 2, none⟩ (.int .u64 xx)).setCell ⟨g, (u + 1) * 4 + 3, none⟩ (.slice xA xd.length xdc)).setCell ⟨g, u * 4, none⟩ (.string str)).setCell ⟨g, u * 4 + 1, none⟩ (.string nm)).setCell ⟨g, u * 4 + 2, none⟩ (.int .u64 X)).setCell ⟨g, u * 4 + 3, none⟩ (.slice A5 xl.length c5)).ownsRow base 117 4 (.slice (some ⟨g, 0, none⟩) n cap) n (En.flatR (En.insR lr u ⟨str, nm, X, xl, A5, c5⟩)) := by
  have hrw := own_set4 (own_set4 h (u + 1) (by rw [En.insR_len _ _ _ ht]; omega) ⟨xp, xc, xx, xd, xA, xdc⟩) u (by rw [List.length_set, En.insR_len _ _ _ ht]; omega) ⟨str, nm, X, xl, A5, c5⟩
  have hd := En.insR_down lr (u + 1) ⟨str, nm, X, xl, A5, c5⟩ ht (by omega)
  simp only [Nat.add_sub_cancel] at hd
  have hxu : lr[u]'(by omega) = ⟨xp, xc, xx, xd, xA, xdc⟩ := by
    rw [List.getElem?_eq_getElem (by omega)] at hx
    exact Option.some.inj hx
  rw [hxu] at hd
  rw [hd] at hrw
  exact hrw
end Go.Proofs.Yticmfflnenoplaa
