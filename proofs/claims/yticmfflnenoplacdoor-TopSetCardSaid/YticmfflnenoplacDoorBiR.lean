/- Sets of processors: the reference's words: plain, and its walk. No statement is proved here. -/
import Derived.Test.YticmfflnenoplacDoorBiQ
namespace Go.Proofs.YticmfflnenoplacDoor
open Go.RowKit Go.Deep Pop Bi Am
namespace Bi
/-- Words, the first of which is under way. -/
def splitP (p : List UInt8) : List UInt8 → List (List UInt8)
  | [] => [p]
  | c :: l => if c = 44 then p :: splitP [] l else splitP (p ++ [c]) l
theorem index_at (p r : List UInt8) (h : (44 : UInt8) ∉ p) : Lib.indexByte (p ++ 44 :: r) 44 = p.length := by
  induction p with
  | nil => simp [Lib.indexByte]
  | cons c p ih =>
    simp only [List.mem_cons, not_or] at h
    have hc : (c == 44) = false := by simp; exact fun e => h.1 e.symm
    rw [List.cons_append, Lib.indexByte, hc, ih h.2]
    simp
theorem split_is : ∀ (l p : List UInt8), (44 : UInt8) ∉ p → Lib.split (p ++ l) [44] = splitP p l
  | [], p, h => by
    rw [List.append_nil]
    unfold Lib.split
    rw [Lib.count_one, List.count_eq_zero_of_not_mem h]
    rfl
  | c :: r, p, h => by
    by_cases hc : c = 44
    · subst hc
      simp only [splitP, if_true]
      rw [← split_is r [] (by simp), List.nil_append]
      unfold Lib.split
      rw [Lib.count_one, Lib.count_one, List.count_append, List.count_eq_zero_of_not_mem h, List.count_cons_self, Nat.zero_add, Lib.splitK, Lib.index_one, index_at p r h]
      rw [if_neg (by simp)]
      simp
    · simp only [splitP, if_neg hc]
      rw [← split_is r (p ++ [c]) (by simp [h]; exact fun e => hc e.symm), List.append_assoc]
      rfl
theorem wordsP_is (s : List UInt8) : wordsP s = splitP [] s := split_is s [] (by simp)
theorem ext_data (s : ByteArray) (a b : Nat) : (s.extract a b).data.toList = (s.data.toList.take b).drop a := by
  rw [ByteArray.data_extract, Array.toList_extract, List.extract_eq_take_drop, List.drop_take]
/-- What the loop knows: the words done, where the one under way begins. -/
def WordsAt (s : List UInt8) (D : List ByteArray) (f i : Nat) : Prop := wordsP s = D.map (fun b : ByteArray => b.data.toList) ++ splitP ((s.take i).drop f) (s.drop i)
theorem words_start (s : List UInt8) : WordsAt s [] 0 0 := by unfold WordsAt; rw [wordsP_is]; rfl
theorem words_cut {s : List UInt8} {D : List ByteArray} {f i : Nat} (h : WordsAt s D f i) (hi : i < s.length) (hc : s[i] = 44) {x : ByteArray} (hx : x.data.toList = (s.take i).drop f) : WordsAt s (D ++ [x]) (i + 1) (i + 1) := by
  unfold WordsAt at *
  rw [h, List.drop_eq_getElem_cons hi, hc]
  simp only [splitP, if_true]
  have : (s.take (i + 1)).drop (i + 1) = [] := List.drop_eq_nil_of_le (by simp; omega)
  rw [this, List.map_append, List.map_cons, List.map_nil, hx, List.append_assoc]
  rfl
theorem words_go {s : List UInt8} {D : List ByteArray} {f i : Nat} (h : WordsAt s D f i) (hi : i < s.length) (hc : s[i] ≠ 44) (hf : f ≤ i) : WordsAt s D f (i + 1) := by
  unfold WordsAt at *
  rw [h, List.drop_eq_getElem_cons hi]
  simp only [splitP, if_neg hc]
  have : (s.take (i + 1)).drop f = (s.take i).drop f ++ [s[i]] := by
    rw [List.take_succ_eq_append_getElem hi, List.drop_append_of_le_length (by simp; omega)]
  rw [this]
theorem words_last {s : List UInt8} {D : List ByteArray} {f : Nat} (h : WordsAt s D f s.length) {x : ByteArray} (hx : x.data.toList = (s.take s.length).drop f) : wordsP s = (D ++ [x]).map (fun b : ByteArray => b.data.toList) := by
  unfold WordsAt at h
  rw [h, List.drop_length]
  simp only [splitP]
  rw [List.map_append, List.map_cons, List.map_nil, hx]
theorem u8_44 (c : UInt8) : (c.toNat : Int) = 44 ↔ c = 44 := by
  rw [← UInt8.toNat_inj]
  show _ ↔ c.toNat = 44
  omega
def strsV (D : List ByteArray) : List Value := D.map Value.string
theorem strsV_nil : strsV [] = [] := rfl
theorem strsV_snoc (D : List ByteArray) (x : ByteArray) : strsV (D ++ [x]) = strsV D ++ [.string x] := by simp [strsV]
end Bi
def WordsR (s : ByteArray) (w : World) (e : Ending) (w' : World) : Prop := ∃ (A : Option Addr) (c : Nat) (D : List ByteArray), e = .returned (.slice A D.length c) ∧ D.map (fun b : ByteArray => b.data.toList) = wordsP s.data.toList ∧ (∀ x ∈ D, x.size ≤ s.size) ∧ D.length ≤ s.size + 1 ∧ w'.ownsRow w.heap.size 9 1 (.slice A D.length c) D.length (strsV D) ∧ Below w.heap.size w w'
section
attribute [local irreducible] WordsAt wordsP strsV
end
end Go.Proofs.YticmfflnenoplacDoor
