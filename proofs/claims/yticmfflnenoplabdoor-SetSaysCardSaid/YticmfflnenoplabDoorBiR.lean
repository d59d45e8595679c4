/- Sets of processors: the reference's words: plain, and its walk. No statement is proved here. -/
import Derived.Test.YticmfflnenoplabDoorBiQ
namespace Go.Proofs.YticmfflnenoplabDoor
open Go.RowKit Go.Deep Pop Bi Am
namespace Bi
/-- Words, the first of which is under way. -/
def splitP (p : List UInt8) : List UInt8 → List (List UInt8)
  | [] => [p]
  | c :: l => if c = 44 then p :: splitP [] l else splitP (p ++ [c]) l
theorem index_at (p r : List UInt8) (h : (44 : UInt8) ∉ p) : Lib.indexByte (p ++ 44 :: r) 44 = p.length := by
  induction p with
  | nil => simp [Lib.indexByte]
  | cons c p ih =>
    simp only [List.mem_cons, not_or] at h
    have hc : (c == 44) = false := by simp; exact fun e => h.1 e.symm
    rw [List.cons_append, Lib.indexByte, hc, ih h.2]
    simp
theorem split_is : ∀ (l p : List UInt8), (44 : UInt8) ∉ p → Lib.split (p ++ l) [44] = splitP p l
  | [], p, h => by
    rw [List.append_nil]
    unfold Lib.split
    rw [Lib.count_one, List.count_eq_zero_of_not_mem h]
    rfl
  | c :: r, p, h => by
    by_cases hc : c = 44
    · subst hc
      simp only [splitP, if_true]
      rw [← split_is r [] (by simp), List.nil_append]
      unfold Lib.split
      rw [Lib.count_one, Lib.count_one, List.count_append, List.count_eq_zero_of_not_mem h, List.count_cons_self, Nat.zero_add, Lib.splitK, Lib.index_one, index_at p r h]
      rw [if_neg (by simp)]
      simp
    · simp only [splitP, if_neg hc]
      rw [← split_is r (p ++ [c]) (by simp [h]; exact fun e => hc e.symm), List.append_assoc]
      rfl
theorem wordsP_is (s : List UInt8) : wordsP s = splitP [] s := split_is s [] (by simp)
theorem ext_data (s : ByteArray) (a b : Nat) : (s.extract a b).data.toList = (s.data.toList.take b).drop a := by
  rw [ByteArray.data_extract, Array.toList_extract, List.extract_eq_take_drop, List.drop_take]
/-- What the loop knows: the words done, where the one under way begins. -/
def WordsAt (s : List UInt8) (D : List ByteArray) (f i : Nat) : Prop := wordsP s = D.map (fun b : ByteArray => b.data.toList) ++ splitP ((s.take i).drop f) (s.drop i)
theorem words_start (s : List UInt8) : WordsAt s [] 0 0 := by unfold WordsAt; rw [wordsP_is]; rfl
theorem words_cut {s : List UInt8} {D : List ByteArray} {f i : Nat} (h : WordsAt s D f i) (hi : i < s.length) (hc : s[i] = 44) {x : ByteArray} (hx : x.data.toList = (s.take i).drop f) : WordsAt s (D ++ [x]) (i + 1) (i + 1) := by
  unfold WordsAt at *
  rw [h, List.drop_eq_getElem_cons hi, hc]
  simp only [splitP, if_true]
  have : (s.take (i + 1)).drop (i + 1) = [] := List.drop_eq_nil_of_le (by simp; omega)
  rw [this, List.map_append, List.map_cons, List.map_nil, hx, List.append_assoc]
  rfl
theorem words_go {s : List UInt8} {D : List ByteArray} {f i : Nat} (h : WordsAt s D f i) (hi : i < s.length) (hc : s[i] ≠ 44) (hf : f ≤ i) : WordsAt s D f (i + 1) := by
  unfold WordsAt at *
  rw [h, List.drop_eq_getElem_cons hi]
  simp only [splitP, if_neg hc]
  have : (s.take (i + 1)).drop f = (s.take i).drop f ++ [s[i]] := by
    rw [List.take_succ_eq_append_getElem hi, List.drop_append_of_le_length (by simp; omega)]
  rw [this]
theorem words_last {s : List UInt8} {D : List ByteArray} {f : Nat} (h : WordsAt s D f s.length) {x : ByteArray} (hx : x.data.toList = (s.take s.length).drop f) : wordsP s = (D ++ [x]).map (fun b : ByteArray => b.data.toList) := by
  unfold WordsAt at h
  rw [h, List.drop_length]
  simp only [splitP]
  rw [List.map_append, List.map_cons, List.map_nil, hx]
theorem u8_44 (c : UInt8) : (c.toNat : Int) = 44 ↔ c = 44 := by
  rw [← UInt8.toNat_inj]
  show _ ↔ c.toNat = 44
  omega
def strsV (D : List ByteArray) : List Value := D.map Value.string
theorem strsV_nil : strsV [] = [] := rfl
theorem strsV_snoc (D : List ByteArray) (x : ByteArray) : strsV (D ++ [x]) = strsV D ++ [.string x] := by simp [strsV]
end Bi
def WordsR (s : ByteArray) (w : World) (e : Ending) (w' : World) : Prop := ∃ (A : Option Addr) (c : Nat) (D : List ByteArray), e = .returned (.slice A D.length c) ∧ D.map (fun b : ByteArray => b.data.toList) = wordsP s.data.toList ∧ (∀ x ∈ D, x.size ≤ s.size) ∧ D.length ≤ s.size + 1 ∧ w'.ownsRow w.heap.size 9 1 (.slice A D.length c) D.length (strsV D) ∧ Below w.heap.size w w'
section
attribute [local irreducible] WordsAt wordsP strsV
set_option maxRecDepth 100000 in
set_option maxHeartbeats 4000000 in
theorem words_any (s : ByteArray) (hs : s.size ≤ 1000) (w : World) : Calls Tryd.prog 38 #[.string s, .int .u8 44] w (WordsR s w) := by
  have H0 := Lib.hid (words_start s.data.toList)
  go_enter Tryd.func38, Tryd.ntmps38
  go_wp2_with fail
  go_loopw [5, 6, 7] (fun v fr i wi => (∃ (k f : Nat) (A : Option Addr) (c : Nat) (D : List ByteArray), i = .int .i64 k ∧ k ≤ s.size ∧ fr = .int .i64 f ∧ f ≤ k ∧ v = .slice A D.length c ∧ Hid (WordsAt s.data.toList D f k) ∧ Hid (∀ x ∈ D, x.size ≤ s.size) ∧ D.length ≤ k ∧ Hid (wi.ownsRow w.heap.size 9 1 (.slice A D.length c) D.length (strsV D)) ∧ Below w.heap.size w wi) ∨ (∃ (f : Nat) (A : Option Addr) (c : Nat) (D : List ByteArray), i = .int .i64 ((s.size : Int) + 1) ∧ fr = .int .i64 f ∧ v = .slice A D.length c ∧ Hid (WordsR s w (.returned (.slice A D.length c)) wi))) (fun _ _ i _ => s.size + 1 - (intOf i).toNat)
  case atStart => exact .inl ⟨0, 0, none, 0, [], rfl, by omega, rfl, by omega, rfl, H0, Lib.hid (fun x hx => by cases hx), by simp, Lib.hid (by rw [strsV_nil]; exact World.ownsRow_nil _ _ _ _), Below.refl _ _⟩
  case round =>
    clear H0
    rcases hrel with ⟨k, f, A, c, D, rfl, hk, rfl, hf, rfl, HW, HD, hDl, HO, hb⟩ | ⟨f, A, c, D, rfl, rfl, rfl, HR⟩
    · have hk0 : (k : Int) ≤ s.size := by omega
      have hs0 : (s.size : Int) ≤ 1000 := by omega
      rcases Nat.lt_or_ge k s.size with hlt | hge
      · have hlt2 : k < s.data.toList.length := hlt
        have hk1 : (k : Int) < s.size := by omega
        have el : s.data.toList[k] = s[k] := rfl
        by_cases hc : s.data.toList[k] = 44
        · obtain ⟨x, hx⟩ : ∃ x, x = s.extract f k := ⟨_, rfl⟩
          have hxs : x.size ≤ s.size := by rw [hx, ByteArray.size_extract]; omega
          have HX : Hid (x.data.toList = (s.data.toList.take k).drop f) := Lib.hid (by rw [hx]; exact ext_data s f k)
          have HSN := Lib.hid (strsV_snoc D x)
          have HLN : Hid ((D ++ [x]).length = D.length + 1) := Lib.hid (by simp)
          have HDN : Hid (∀ y ∈ D ++ [x], y.size ≤ s.size) := Lib.hid (by
            intro y hy
            rcases List.mem_append.1 hy with hy | hy
            · exact HD.out y hy
            · obtain rfl := List.mem_singleton.1 hy
              exact hxs)
          have HXE := Lib.hid hx
          clear hx hxs HD
          have HW2 := Lib.hid (words_cut HW.out hlt2 hc HX.out)
          have hq1 : ((s[k].toNat : Int) == 44) = true := by rw [(u8_44 s[k]).2 hc]; rfl
          have hq0 : ((k : Int) == s.size) = false := by simp; omega
          clear HW hc el HX
          go_wp2_with (at_builtin; refine wpList_app _ strT rfl (.tmp 25) (.tmp 30) rfl w.heap.size (.slice A D.length c) D.length (strsV D) rfl (by exact HO.out.alloc _) ⟨wr.heap.size, 0, none⟩ 1 1 [.string (s.extract f k)] rfl rfl (news_new wr _ _) (by simp [Value.oneCell']) (by omega) (by unfold maxLen; omega) (by omega) (by have := hb.size; simp; omega) ?_; intro g8 c8 w8 hown8 hgr8 hat8 hlt8)
          rw [← HXE.out, ← HSN.out] at hown8
          have HO8 := Lib.hid hown8
          have hba := hb.alloc hb.size (.cells #[.string (s.extract f k)] 9)
          have hb8 : Below w.heap.size w w8 := hba.grown hgr8 hba.size (fun q hq => (HO.out.lt q hq).1)
          clear hown8 hgr8 hat8 hba HO
          go_wp2_with fail
          go_roundw
          case rel => exact .inl ⟨k + 1, k + 1, some ⟨g8, 0, none⟩, c8, D ++ [x], by go_num, by omega, by go_num, by omega, by rw [HLN.out], HW2, HDN, by rw [HLN.out]; omega, Lib.hid (by have := HO8.out; rw [← HLN.out] at this; exact this), hb8⟩
          case measure => simp [intOf]; omega
        · have HW2 := Lib.hid (words_go HW.out hlt2 hc hf)
          have hq1 : ((s[k].toNat : Int) == 44) = false := by simp; exact fun h => hc ((u8_44 s[k]).1 h)
          have hq0 : ((k : Int) == s.size) = false := by simp; omega
          have hor : ((k : Int) == s.size || (s[k].toNat : Int) == 44) = false := by rw [hq0, hq1]; rfl
          clear HW hc el
          go_wp2_with fail
          go_roundw
          case rel => exact .inl ⟨k + 1, f, A, c, D, by go_num, by omega, rfl, by omega, rfl, HW2, HD, by omega, HO, hb⟩
          case measure => simp [intOf]; omega
      · obtain rfl : k = s.size := by omega
        obtain ⟨x, hx⟩ : ∃ x, x = s.extract f s.size := ⟨_, rfl⟩
        have hxs : x.size ≤ s.size := by rw [hx, ByteArray.size_extract]; omega
        have HX : Hid (x.data.toList = (s.data.toList.take s.size).drop f) := Lib.hid (by rw [hx]; exact ext_data s f s.size)
        have HSN := Lib.hid (strsV_snoc D x)
        have HLN : Hid ((D ++ [x]).length = D.length + 1) := Lib.hid (by simp)
        have HDN : Hid (∀ y ∈ D ++ [x], y.size ≤ s.size) := Lib.hid (by
          intro y hy
          rcases List.mem_append.1 hy with hy | hy
          · exact HD.out y hy
          · obtain rfl := List.mem_singleton.1 hy
            exact hxs)
        have HXE := Lib.hid hx
        clear hx hxs HD
        have HW2 := Lib.hid (words_last HW.out HX.out)
        clear HW HX
        go_wp2_with (at_builtin; refine wpList_app _ strT rfl (.tmp 25) (.tmp 30) rfl w.heap.size (.slice A D.length c) D.length (strsV D) rfl (by exact HO.out.alloc _) ⟨wr.heap.size, 0, none⟩ 1 1 [.string (s.extract f s.size)] rfl rfl (news_new wr _ _) (by simp [Value.oneCell']) (by omega) (by unfold maxLen; omega) (by omega) (by have := hb.size; simp; omega) ?_; intro g8 c8 w8 hown8 hgr8 hat8 hlt8)
        rw [← HXE.out, ← HSN.out] at hown8
        have HO8 := Lib.hid hown8
        have hba := hb.alloc hb.size (.cells #[.string (s.extract f s.size)] 9)
        have hb8 : Below w.heap.size w w8 := hba.grown hgr8 hba.size (fun q hq => (HO.out.lt q hq).1)
        clear hown8 hgr8 hat8 hba HO
        go_wp2_with fail
        go_roundw
        case rel => exact .inr ⟨s.size + 1, some ⟨g8, 0, none⟩, c8, D ++ [x], by go_num, by go_num, by rw [HLN.out], Lib.hid ⟨some ⟨g8, 0, none⟩, c8, D ++ [x], rfl, HW2.out.symm, HDN.out, (by have := HLN.out; omega), by have := HO8.out; rw [← HLN.out] at this; exact this, hb8⟩⟩
        case measure => simp [intOf]
    · have hsz : (s.size : Int) + 1 ≤ 1001 := by omega
      go_wp2_with fail
      go_ret
      exact HR.out
end
end Go.Proofs.YticmfflnenoplabDoor
