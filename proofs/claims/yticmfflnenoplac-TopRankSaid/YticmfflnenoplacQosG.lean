/- Class, Own, Shares, Quota, of both texts: their walks. -/
import Derived.Test.YticmfflnenoplacQosF
import Derived.Test.YticmfflnenoplacQosD
namespace Go.Proofs.Yticmfflnenoplac
open Go.RowKit Qo Da
def RetI (n : Int) (w : World) (e : Ending) (w' : World) : Prop := e = .returned (.int .i64 n) ∧ w = w'
theorem RetI.of {n m : Int} {w : World} (h : n = m) : RetI n w (.returned (.int .i64 m)) w := ⟨by rw [h], rfl⟩
theorem cont_in {w w' : World} {B b off n cap : Nat} {l : List Cont} (h : RSlice w B 6 (RCont w B) [.slice (some ⟨b, off, none⟩) n cap] l) (hb : Below B w w') {k : Nat} (hk : k < l.length) :
    ∃ A2 c2, l[k].devs.length ≤ c2 ∧ c2 ≤ maxLen ∧ l[k].name.size ≤ maxLen ∧ RCont w' B (contCells l[k] (.slice A2 l[k].devs.length c2)) l[k] ∧ w'.cell? ⟨b, off + k * 6, none⟩ = some (.string l[k].name) ∧ w'.cell? ⟨b, off + k * 6 + 1, none⟩ = some (.int .i64 l[k].askM) ∧ w'.cell? ⟨b, off + k * 6 + 2, none⟩ = some (.int .i64 l[k].askB) ∧
      w'.cell? ⟨b, off + k * 6 + 3, none⟩ = some (.int .i64 l[k].capM) ∧ w'.cell? ⟨b, off + k * 6 + 4, none⟩ = some (.int .i64 l[k].capB) ∧ w'.cell? ⟨b, off + k * 6 + 5, none⟩ = some (.slice A2 l[k].devs.length c2) := by
  obtain ⟨hlt, cs', q1, q2, q3⟩ := (h.below hb).at_ hk
  have q3' := q3.below hb
  obtain ⟨A2, c2, e, hn, h1, h2, _⟩ := cont_cells q3
  rw [e] at q2 q3'
  exact ⟨A2, c2, h1, h2, hn, q3', q2 0 _ rfl, q2 1 _ rfl, q2 2 _ rfl, q2 3 _ rfl, q2 4 _ rfl, q2 5 _ rfl⟩
theorem full_eq {c : Cont} (b : Bool) (h : (c.askM = c.capM ∧ c.askB = c.capB ∧ 0 < c.askM ∧ 0 < c.askB) ↔ b = true) : full c = b := by
  rw [Bool.eq_iff_iff, ← h]
  simp [full, and_assoc]
theorem bare_eq {c : Cont} (b : Bool) (h : (c.askM = 0 ∧ c.askB = 0 ∧ c.capM = 0 ∧ c.capB = 0) ↔ b = true) : bare c = b := by
  rw [Bool.eq_iff_iff, ← h]
  simp [bare, and_assoc]
section
attribute [local irreducible] bareK fullK RCont RSlice bare full cls nameMay
end
end Go.Proofs.Yticmfflnenoplac
