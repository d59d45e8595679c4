/- Sets of processors: the reference's reading: its walk. No statement is proved here. -/
import Derived.Test.YticmfflnenoplacDoorBiT
namespace Go.Proofs.YticmfflnenoplacDoor
open Go.RowKit Go.Deep Pop Bi Am
theorem digR_at (a : List UInt8) : (digR a 1000).1 ≤ 1001 ∧ okD a = (digR a 1000).2 ∧ (okD a = true → (digR a 1000).1 = min (num a) 1001) := by
  rw [digR_is]
  cases okD a
  · exact ⟨Nat.zero_le _, rfl, fun h => by cases h⟩
  · exact ⟨Nat.min_le_right _ _, rfl, fun _ => rfl⟩
theorem gtB_num {a b : List UInt8} (hl : a.length = b.length) (ha : okD a = true) (hb : okD b = true) : (!Op.bytesLess a b && !a == b) = decide (num b < num a) := by
  rw [less_num hl ha hb]
  rcases Nat.lt_trichotomy (num a) (num b) with h | h | h
  · rw [decide_eq_true h, decide_eq_false (by omega)]; rfl
  · have he : a = b := by rw [← dec_num _ a rfl ha, ← dec_num _ b rfl hb, h]
    subst he
    simp
  · have he : ¬ a = b := fun e => by subst e; omega
    have he2 : (a == b) = false := by simp [he]
    rw [decide_eq_false (by omega), decide_eq_true h, he2]; rfl
theorem and4 : ∀ o1 o2 i1 i2 : Bool, (o1 && o2 && (i1 && i2)) = false → (o1 && i1) = false ∨ (o2 && i2) = false := by decide
def RetUIB (r : Nat × Int) (w : World) (e : Ending) (w' : World) : Prop := e = .returned (.tuple #[.int .u64 r.1, .int .i64 r.2]) ∧ Below w.heap.size w w'
theorem RetUIB.of {r : Nat × Int} {a : Nat} {f : Int} {w w' : World} (h : r = (a, f)) (hb : Below w.heap.size w w') : RetUIB r w (.returned (.tuple #[.int .u64 a, .int .i64 f])) w' := by
  subst h; exact ⟨rfl, hb⟩
theorem u8_45 (c : UInt8) : (c.toNat : Int) = 45 ↔ c = 45 := by
  rw [← UInt8.toNat_inj]
  show _ ↔ c.toNat = 45
  omega
section
attribute [local irreducible] numB num goW orR wordA wordB parseP wordsP Lib.cut DashI okD intB strsV digR Op.bytesLess
end
end Go.Proofs.YticmfflnenoplacDoor
