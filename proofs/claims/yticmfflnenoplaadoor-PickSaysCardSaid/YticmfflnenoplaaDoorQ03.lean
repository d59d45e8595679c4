/- Texts laid together: BiQ, BiR, AmH, BiS, BiT, BiU, BiV, TopoA, PkA, BiW, BiX, BiZ. No statement is proved here. -/
import Derived.Lib.SmallJoins
import Derived.Test.YticmfflnenoplaaDoorQ02
namespace Go.Proofs.YticmfflnenoplaaDoor
open Go.RowKit Go.Deep Pop Bi Am
namespace Bi
theorem cut_le (l : List UInt8) (c : UInt8) : (Lib.cut l [c]).1.length ≤ l.length ∧ (Lib.cut l [c]).2.1.length ≤ l.length := by
  unfold Lib.cut
  split
  · exact ⟨by simp; omega, by simp⟩
  · exact ⟨Nat.le_refl _, by simp⟩
theorem split_le (sep : ByteArray) (save : Nat) (hsv : save = 0) : ∀ (k : Nat) (s : ByteArray), ∀ x ∈ Lib.splitB sep save k s, x.size ≤ s.size
  | 0, s, x, hx => by
    rw [Lib.splitB_zero] at hx
    obtain rfl := List.mem_singleton.1 hx
    exact Nat.le_refl _
  | k + 1, s, x, hx => by
    unfold Lib.splitB at hx
    split at hx
    · obtain rfl := List.mem_singleton.1 hx
      exact Nat.le_refl _
    · rcases List.mem_cons.1 hx with rfl | hx
      · rw [ByteArray.size_extract]; omega
      · have := split_le sep save hsv k _ x hx
        rw [ByteArray.size_extract] at this
        omega
/-- The words as they lie in memory. -/
def wordsB (s : ByteArray) : List ByteArray := Lib.splitB ⟨#[44]⟩ 0 (Lib.countB s ⟨#[44]⟩) s
theorem wordsB_data (s : ByteArray) : (wordsB s).map (fun b : ByteArray => b.data.toList) = wordsP s.data.toList := by
  unfold wordsB
  exact Lib.splitB_data _ _ _ _
theorem wordsB_len (s : ByteArray) : (wordsB s).length = Lib.countB s ⟨#[44]⟩ + 1 := Lib.splitB_all ⟨#[44]⟩ (by decide) 0 _ s rfl
theorem wordsB_le (s : ByteArray) : ∀ x ∈ wordsB s, x.size ≤ s.size := split_le _ _ rfl _ _
theorem wordsB_few (s : ByteArray) : (wordsB s).length ≤ s.size + 1 := by
  rw [wordsB_len]
  have := Lib.countB_le ⟨#[44]⟩ (by decide) s.size s (Nat.le_refl _)
  omega
theorem orR_zero (s a : Nat) : orR s a 0 = s := rfl
theorem orR_succ (s a k : Nat) : orR s a (k + 1) = orR s a k ||| 2 ^ (a + k) := rfl
end Bi
def NumP (a : List UInt8) (w : World) (e : Ending) (w' : World) : Prop := ∃ m : Int, e = .returned (.tuple #[.int .i64 m, .bool (numB a)]) ∧ (numB a = true → m = num a) ∧ (-9223372036854775808 ≤ m ∧ m ≤ 9223372036854775807) ∧ Below w.heap.size w w'
theorem NumP.of {a : List UInt8} {m : Int} {b : Bool} {w w' : World} (h : numB a = b) (h2 : numB a = true → m = num a) (hm : -9223372036854775808 ≤ m ∧ m ≤ 9223372036854775807) (hb : Below w.heap.size w w') : NumP a w (.returned (.tuple #[.int .i64 m, .bool b])) w' :=
  ⟨m, by rw [h], h2, hm, hb⟩
theorem data_list (s : ByteArray) : s.toList = s.data.toList := ByteArray.toList_eq s
theorem beq_data {T s : ByteArray} {l : List UInt8} (hT : T = ⟨l.toArray⟩) : (T.toList == s.toList) = decide (l = s.data.toList) := by
  rw [hT, data_list, data_list, Bool.eq_iff_iff, beq_iff_eq, decide_eq_true_eq]
section
attribute [local irreducible] numB num Lib.itoa Lib.atoiAll
end
theorem wordA_eq (w : List UInt8) : wordA w = (Lib.cut w [45]).1 := rfl
theorem wordB_yes {w : List UInt8} (h : (Lib.cut w [45]).2.2 = true) : wordB w = (Lib.cut w [45]).2.1 := by simp [wordB, h]
theorem wordB_no {w : List UInt8} (h : (Lib.cut w [45]).2.2 = false) : wordB w = (Lib.cut w [45]).1 := by simp [wordB, h]
def RetUEB (r : Nat × Int) (w : World) (e : Ending) (w' : World) : Prop := e = .returned (.tuple #[.int .u64 r.1, errV r.2]) ∧ Below w.heap.size w w'
theorem RetUEB.bad {r : Nat × Int} {f : Int} {v : Value} {w w' : World} (h : r = (0, f)) (hv : v = errV f) (hb : Below w.heap.size w w') : RetUEB r w (.returned (.tuple #[.int .u64 0, v])) w' := by
  subst h; subst hv; exact ⟨rfl, hb⟩
theorem RetUEB.ok {r : Nat × Int} {a : Nat} {w w' : World} (h : r = (a, 0)) (hb : Below w.heap.size w w') : RetUEB r w (.returned (.tuple #[.int .u64 a, .nilIface])) w' := by
  subst h; exact ⟨rfl, hb⟩
theorem size_data (s : ByteArray) : s.data.toList.length = s.size := rfl
section
attribute [local irreducible] numB num goW orR wordA wordB parseP wordsB Lib.cut
end
end Go.Proofs.YticmfflnenoplaaDoor
namespace Go.Proofs.YticmfflnenoplaaDoor
open Go.RowKit Go.Deep Pop Bi Am
namespace Bi
/-- Words, the first of which is under way. -/
def splitP (p : List UInt8) : List UInt8 → List (List UInt8)
  | [] => [p]
  | c :: l => if c = 44 then p :: splitP [] l else splitP (p ++ [c]) l
theorem index_at (p r : List UInt8) (h : (44 : UInt8) ∉ p) : Lib.indexByte (p ++ 44 :: r) 44 = p.length := by
  induction p with
  | nil => simp [Lib.indexByte]
  | cons c p ih =>
    simp only [List.mem_cons, not_or] at h
    have hc : (c == 44) = false := by simp; exact fun e => h.1 e.symm
    rw [List.cons_append, Lib.indexByte, hc, ih h.2]
    simp
theorem split_is : ∀ (l p : List UInt8), (44 : UInt8) ∉ p → Lib.split (p ++ l) [44] = splitP p l
  | [], p, h => by
    rw [List.append_nil]
    unfold Lib.split
    rw [Lib.count_one, List.count_eq_zero_of_not_mem h]
    rfl
  | c :: r, p, h => by
    by_cases hc : c = 44
    · subst hc
      simp only [splitP, if_true]
      rw [← split_is r [] (by simp), List.nil_append]
      unfold Lib.split
      rw [Lib.count_one, Lib.count_one, List.count_append, List.count_eq_zero_of_not_mem h, List.count_cons_self, Nat.zero_add, Lib.splitK, Lib.index_one, index_at p r h]
      rw [if_neg (by simp)]
      simp
    · simp only [splitP, if_neg hc]
      rw [← split_is r (p ++ [c]) (by simp [h]; exact fun e => hc e.symm), List.append_assoc]
      rfl
theorem wordsP_is (s : List UInt8) : wordsP s = splitP [] s := split_is s [] (by simp)
theorem ext_data (s : ByteArray) (a b : Nat) : (s.extract a b).data.toList = (s.data.toList.take b).drop a := by
  rw [ByteArray.data_extract, Array.toList_extract, List.extract_eq_take_drop, List.drop_take]
/-- What the loop knows: the words done, where the one under way begins. -/
def WordsAt (s : List UInt8) (D : List ByteArray) (f i : Nat) : Prop := wordsP s = D.map (fun b : ByteArray => b.data.toList) ++ splitP ((s.take i).drop f) (s.drop i)
theorem words_start (s : List UInt8) : WordsAt s [] 0 0 := by unfold WordsAt; rw [wordsP_is]; rfl
theorem words_cut {s : List UInt8} {D : List ByteArray} {f i : Nat} (h : WordsAt s D f i) (hi : i < s.length) (hc : s[i] = 44) {x : ByteArray} (hx : x.data.toList = (s.take i).drop f) : WordsAt s (D ++ [x]) (i + 1) (i + 1) := by
  unfold WordsAt at *
  rw [h, List.drop_eq_getElem_cons hi, hc]
  simp only [splitP, if_true]
  have : (s.take (i + 1)).drop (i + 1) = [] := List.drop_eq_nil_of_le (by simp; omega)
  rw [this, List.map_append, List.map_cons, List.map_nil, hx, List.append_assoc]
  rfl
theorem words_go {s : List UInt8} {D : List ByteArray} {f i : Nat} (h : WordsAt s D f i) (hi : i < s.length) (hc : s[i] ≠ 44) (hf : f ≤ i) : WordsAt s D f (i + 1) := by
  unfold WordsAt at *
  rw [h, List.drop_eq_getElem_cons hi]
  simp only [splitP, if_neg hc]
  have : (s.take (i + 1)).drop f = (s.take i).drop f ++ [s[i]] := by
    rw [List.take_succ_eq_append_getElem hi, List.drop_append_of_le_length (by simp; omega)]
  rw [this]
theorem words_last {s : List UInt8} {D : List ByteArray} {f : Nat} (h : WordsAt s D f s.length) {x : ByteArray} (hx : x.data.toList = (s.take s.length).drop f) : wordsP s = (D ++ [x]).map (fun b : ByteArray => b.data.toList) := by
  unfold WordsAt at h
  rw [h, List.drop_length]
  simp only [splitP]
  rw [List.map_append, List.map_cons, List.map_nil, hx]
theorem u8_44 (c : UInt8) : (c.toNat : Int) = 44 ↔ c = 44 := by
  rw [← UInt8.toNat_inj]
  show _ ↔ c.toNat = 44
  omega
def strsV (D : List ByteArray) : List Value := D.map Value.string
theorem strsV_nil : strsV [] = [] := rfl
theorem strsV_snoc (D : List ByteArray) (x : ByteArray) : strsV (D ++ [x]) = strsV D ++ [.string x] := by simp [strsV]
end Bi
def WordsR (s : ByteArray) (w : World) (e : Ending) (w' : World) : Prop := ∃ (A : Option Addr) (c : Nat) (D : List ByteArray), e = .returned (.slice A D.length c) ∧ D.map (fun b : ByteArray => b.data.toList) = wordsP s.data.toList ∧ (∀ x ∈ D, x.size ≤ s.size) ∧ D.length ≤ s.size + 1 ∧ w'.ownsRow w.heap.size 9 1 (.slice A D.length c) D.length (strsV D) ∧ Below w.heap.size w w'
section
attribute [local irreducible] WordsAt wordsP strsV
end
end Go.Proofs.YticmfflnenoplaaDoor
namespace Go.Proofs.YticmfflnenoplaaDoor
open Go.RowKit Am
theorem digR_no {s : List UInt8} {most : Nat} (h : okD s = false) : digR s most = (0, false) := by simp [digR, h]
theorem digR_yes {s : List UInt8} {most : Nat} (h : okD s = true) : digR s most = (min (clip s most s.length) (most + 1), true) := by
  rw [clip_full s most]
  simp [digR, h]
theorem ok_lead {s : ByteArray} (h0 : 0 < s.size) (h1 : 1 < s.size) (hz : s[0] = 48) : okD s.data.toList = false := by
  have := dig_lead (s := s) s.size h0 h1 hz
  rcases digP_or s.data.toList s.size with ⟨_, _, a⟩ | ⟨a, _⟩
  · rw [a] at this; simp at this
  · rcases a with a | a
    · exact a
    · rw [data_len] at a; omega
theorem ok_bad {s : ByteArray} (k : Nat) (h : k < s.size) (hk : isD s[k] = false) : okD s.data.toList = false := by
  have := dig_bad (s := s) s.size k h hk
  rcases digP_or s.data.toList s.size with ⟨_, _, a⟩ | ⟨a, _⟩
  · rw [a] at this; simp at this
  · rcases a with a | a
    · exact a
    · rw [data_len] at a; omega
theorem ok_good {s : ByteArray} (h0 : 1 ≤ s.size) (hl : ¬ (1 < s.size ∧ s[0]'(by omega) = 48)) (h : ∀ j (hj : j < s.size), isD s[j] = true) : okD s.data.toList = true := by
  have := dig_good (s := s) s.size h0 (Nat.le_refl _) hl h
  rcases digP_or s.data.toList s.size with ⟨a, _, _⟩ | ⟨_, a⟩
  · exact a
  · rw [a] at this; simp at this
theorem clip_step (s : ByteArray) (most k : Nat) (h : k < s.size) : clip s.data.toList most (k + 1) = if clip s.data.toList most k ≤ most then 10 * clip s.data.toList most k + (s[k].toNat - 48) else clip s.data.toList most k := clip_next _ most k h
section
attribute [local irreducible] digR num okD isD clip
set_option maxHeartbeats 1000000 in
theorem digitsR_any (s : ByteArray) (hs : s.size ≤ maxLen) (most : Nat) (hm : most ≤ 1125899906842624) (w : World) : Calls Tryd.prog 35 #[.string s, .int .i64 most] w (RetDig (digR s.data.toList most) w) := by
  unfold maxLen at hs
  rcases (show s.size = 0 ∨ 1 ≤ s.size by omega) with h0 | h0
  · have he := isEmpty_yes s h0
    have HF := Lib.hid (digR_no (s := s.data.toList) (most := most) (by
      have : s.data.toList = [] := List.length_eq_zero_iff.1 h0
      rw [this]
      unfold okD
      rfl))
    go_enter Tryd.func35, Tryd.ntmps35
    go_wp2_with fail
    go_ret2
    exact RetDig.of HF.out (by omega)
  · have he := isEmpty_no s h0
    have hi0 : 0 < s.size := by omega
    by_cases hl : 1 < s.size ∧ s[0] = 48
    · obtain ⟨h1, h48⟩ := hl
      have HF := Lib.hid (digR_no (most := most) (ok_lead (s := s) hi0 h1 h48))
      have hb := (u8_48 s[0]).2 h48
      clear h48
      go_enter Tryd.func35, Tryd.ntmps35
      go_wp2_with fail
      go_ret2
      exact RetDig.of HF.out (by omega)
    · have HL := Lib.hid hl
      have hb : (s.size = 1 ∧ (s[0].toNat : Int) = 48) ∨ (s.size = 1 ∧ ¬ ((s[0].toNat : Int) = 48)) ∨ (1 < s.size ∧ ¬ ((s[0].toNat : Int) = 48)) := by
        have hq : 1 < s.size → ¬ ((s[0].toNat : Int) = 48) := fun h1 h2 => hl ⟨h1, (u8_48 s[0]).1 h2⟩
        omega
      clear hl
      have HC0 := Lib.hid (show clip s.data.toList most 0 = 0 by unfold clip; rfl)
      have HC := Lib.hid (clip_step s most)
      rcases hb with ⟨hb1, hb⟩ | ⟨hb1, hb⟩ | ⟨hb1, hb⟩
      all_goals
        go_enter Tryd.func35, Tryd.ntmps35
        go_upto_region 5 with fail
        go_loop [6, 7] (fun a i => ∃ k n : Nat, i = .int .i64 k ∧ k ≤ s.size ∧ a = .int .i64 n ∧ n ≤ 10 * most + 9 ∧ Hid (n = clip s.data.toList most k ∧ ∀ j (hj : j < s.size), j < k → isD s[j] = true)) (fun _ i => s.size - (intOf i).toNat)
        case atStart => exact ⟨0, 0, rfl, by omega, rfl, by omega, HC0.out.symm, fun j hj hj2 => by omega⟩
        case round =>
          obtain ⟨k, n, rfl, hk, rfl, hn, hI⟩ := hrel
          by_cases hlt : k < s.size
          · have hbb := s[k].toNat_lt
            by_cases hd : isD s[k] = true
            · have ⟨d1, d2⟩ := (isD_iff s[k]).1 hd
              have hall : Hid (∀ j (hj : j < s.size), j < k + 1 → isD s[j] = true) := Lib.hid (fun j hj hj2 => by
                by_cases he : j = k
                · subst he; exact hd
                · exact hI.out.2 j hj (by omega))
              have hst := HC.out k hlt
              rw [← hI.out.1] at hst
              clear hd
              by_cases hc : n ≤ most
              · rw [if_pos hc] at hst
                have HST := Lib.hid hst
                clear hst
                go_wp2_with fail
                go_round
                case rel => exact ⟨k + 1, 10 * n + (s[k].toNat - 48), by go_num, by omega, by go_num, by omega, HST.out.symm, hall.out⟩
                case measure => simp [intOf]; omega
              · rw [if_neg hc] at hst
                have HST := Lib.hid hst
                clear hst
                go_wp2_with fail
                go_round
                case rel => exact ⟨k + 1, n, by go_num, by omega, rfl, hn, HST.out.symm, hall.out⟩
                case measure => simp [intOf]; omega
            · have HF := Lib.hid (digR_no (most := most) (ok_bad (s := s) k hlt (by simpa using hd)))
              have hd2 : (s[k].toNat : Int) < 48 ∨ 57 < (s[k].toNat : Int) := by
                have : ¬ (48 ≤ (s[k].toNat : Int) ∧ (s[k].toNat : Int) ≤ 57) := fun h => hd ((isD_iff s[k]).2 h)
                omega
              clear hI hd
              rcases hd2 with hd2 | hd2
              all_goals
                go_wp2_with fail
                go_ret2
                exact RetDig.of HF.out (by omega)
          · obtain rfl : k = s.size := by omega
            have HF := Lib.hid (digR_yes (most := most) (ok_good (s := s) h0 HL.out (fun j hj => hI.out.2 j hj hj)))
            rw [data_len, ← hI.out.1] at HF
            go_wp2_with fail
            go_ret2
            exact RetDig.of (by rw [HF.out]; congr 1; omega) (by omega)
end
end Go.Proofs.YticmfflnenoplaaDoor
namespace Go.Proofs.YticmfflnenoplaaDoor
open Go.RowKit Go.Deep Pop Bi Am
namespace Bi
theorem valD_lt : ∀ (a b : List UInt8) (n m : Nat), a.length = b.length → a.all isD = true → n < m → valD a n < valD b m
  | [], [], n, m, _, _, h => h
  | [], _ :: _, _, _, h, _, _ => by simp at h
  | _ :: _, [], _, _, h, _, _ => by simp at h
  | c :: a, d :: b, n, m, hl, ha, h => by
    simp only [List.all_cons, Bool.and_eq_true] at ha
    have := isD_le ha.1
    exact valD_lt a b _ _ (by simpa using hl) ha.2 (by omega)
theorem less_val : ∀ (a b : List UInt8) (n : Nat), a.length = b.length → a.all isD = true → b.all isD = true → (Op.bytesLess a b = true ↔ valD a n < valD b n)
  | [], [], n, _, _, _ => by simp [Op.bytesLess]
  | [], _ :: _, _, h, _, _ => by simp at h
  | _ :: _, [], _, h, _, _ => by simp at h
  | c :: a, d :: b, n, hl, ha, hb => by
    simp only [List.all_cons, Bool.and_eq_true] at ha hb
    have hl' : a.length = b.length := by simpa using hl
    have h1 := isD_le ha.1
    have h2 := isD_le hb.1
    simp only [Op.bytesLess, valD]
    rcases Nat.lt_trichotomy c.toNat d.toNat with h | h | h
    · have hcd : c < d := h
      have := valD_lt a b (10 * n + (c.toNat - 48)) (10 * n + (d.toNat - 48)) hl' ha.2 (by omega)
      simp [hcd, this]
    · have hcd : c = d := UInt8.toNat_inj.1 h
      subst hcd
      have := less_val a b (10 * n + (c.toNat - 48)) hl' ha.2 hb.2
      simp [this, show ¬ c < c from fun h => Nat.lt_irrefl _ h]
    · have hcd : ¬ c < d := fun h' => by have : c.toNat < d.toNat := h'; omega
      have hne : ¬ c = d := fun e => by subst e; omega
      have := valD_lt b a (10 * n + (d.toNat - 48)) (10 * n + (c.toNat - 48)) hl'.symm hb.2 (by omega)
      have e1 : decide (c < d) = false := decide_eq_false hcd
      have e2 : (c == d) = false := by simp [hne]
      rw [e1, e2, Bool.false_and, Bool.or_false]
      exact ⟨fun h => (Bool.false_ne_true h).elim, fun h => absurd h (by omega)⟩
theorem less_num {a b : List UInt8} (hl : a.length = b.length) (ha : okD a = true) (hb : okD b = true) : Op.bytesLess a b = decide (num a < num b) := by
  rw [Bool.eq_iff_iff, decide_eq_true_eq]
  exact less_val a b 0 hl (okD_all ha) (okD_all hb)
theorem num_below {a : List UInt8} (ha : a.all isD = true) : num a < 10 ^ a.length := by
  have key : ∀ (l : List UInt8) (n : Nat), l.all isD = true → valD l n < (n + 1) * 10 ^ l.length := by
    intro l
    induction l with
    | nil => intro n _; simp [valD]
    | cons c l ih =>
      intro n h
      simp only [List.all_cons, Bool.and_eq_true] at h
      have h1 := isD_le h.1
      have h2 := ih (10 * n + (c.toNat - 48)) h.2
      simp only [valD, List.length_cons]
      refine Nat.lt_of_lt_of_le h2 ?_
      rw [Nat.pow_succ, Nat.mul_comm (10 ^ l.length) 10, ← Nat.mul_assoc]
      exact Nat.mul_le_mul_right _ (by omega)
  have := key a 0 ha
  simpa [num] using this
theorem num_above {a : List UInt8} (ha : okD a = true) (h : 1 < a.length) : 10 ^ (a.length - 1) ≤ num a := by
  have key : ∀ (l : List UInt8) (n : Nat), n * 10 ^ l.length ≤ valD l n := by
    intro l
    induction l with
    | nil => intro n; simp [valD]
    | cons c l ih =>
      intro n
      have h2 := ih (10 * n + (c.toNat - 48))
      simp only [valD, List.length_cons]
      refine Nat.le_trans ?_ h2
      rw [Nat.pow_succ, Nat.mul_comm (10 ^ l.length) 10, ← Nat.mul_assoc]
      exact Nat.mul_le_mul_right _ (by omega)
  obtain ⟨c, r, rfl, hc, hz⟩ := okD_cons ha
  have hr : r ≠ [] := by intro e; subst e; simp at h
  have hc2 := isD_le hc
  have hc3 : c.toNat ≠ 48 := fun e => hz hr (UInt8.toNat_inj.1 e)
  have := key r (10 * 0 + (c.toNat - 48))
  have e : num (c :: r) = valD r (10 * 0 + (c.toNat - 48)) := rfl
  rw [e]
  simp only [List.length_cons, Nat.add_sub_cancel]
  refine Nat.le_trans ?_ this
  have : 1 * 10 ^ r.length ≤ (10 * 0 + (c.toNat - 48)) * 10 ^ r.length := Nat.mul_le_mul_right _ (by omega)
  omega
theorem num_longer {a b : List UInt8} (ha : okD a = true) (hb : okD b = true) (h : a.length < b.length) : num a < num b := by
  have h0 : 0 < a.length := by obtain ⟨c, r, rfl, _⟩ := okD_cons ha; simp
  have h1 := num_below (okD_all ha)
  have h2 := num_above hb (by omega)
  have : 10 ^ a.length ≤ 10 ^ (b.length - 1) := Nat.pow_le_pow_right (by omega) (by omega)
  omega
def big : List UInt8 := [57, 50, 50, 51, 51, 55, 50, 48, 51, 54, 56, 53, 52, 55, 55, 53, 56, 48, 55]
theorem big_ok : okD big = true ∧ num big = 9223372036854775807 ∧ big.length = 19 := by decide
/-- Is a number's text within an int? -/
def intB (a : List UInt8) : Bool := decide (a.length < 19) || (decide (a.length = 19) && (Op.bytesLess a big || a == big))
theorem intB_num {a : List UInt8} (ha : okD a = true) : intB a = numB a := by
  obtain ⟨b1, b2, b3⟩ := big_ok
  rw [Bool.eq_iff_iff]
  simp only [intB, numB, ha, Bool.or_eq_true, Bool.and_eq_true, decide_eq_true_eq, true_and]
  rcases Nat.lt_trichotomy a.length 19 with h | h | h
  · have := num_longer ha b1 (by omega)
    simp [h]
    omega
  · have := less_num (by omega : a.length = big.length) ha b1
    rw [this, b2]
    simp only [h, Nat.lt_irrefl, false_or, true_and, decide_eq_true_eq, beq_iff_eq]
    constructor
    · rintro (h1 | rfl)
      · omega
      · omega
    · intro h1
      by_cases h2 : num a < 9223372036854775807
      · exact .inl h2
      · refine .inr ?_
        rw [← dec_num _ a rfl ha, ← dec_num _ big rfl b1]
        congr 1
        omega
  · have := num_longer b1 ha (by omega)
    constructor
    · rintro (h1 | h1)
      · omega
      · omega
    · intro h1; omega
/-- Does the second number come ahead of the first one? -/
def aheadB (a b : List UInt8) : Bool := decide (b.length < a.length) || (decide (a.length = b.length) && Op.bytesLess b a)
theorem ahead_num {a b : List UInt8} (ha : okD a = true) (hb : okD b = true) : aheadB a b = decide (num b < num a) := by
  rw [Bool.eq_iff_iff]
  simp only [aheadB, Bool.or_eq_true, Bool.and_eq_true, decide_eq_true_eq]
  rcases Nat.lt_trichotomy a.length b.length with h | h | h
  · have := num_longer ha hb h
    omega
  · rw [less_num h.symm hb ha]
    simp [h]
  · have := num_longer hb ha h
    omega
end Bi
end Go.Proofs.YticmfflnenoplaaDoor
namespace Go.Proofs.YticmfflnenoplaaDoor
open Go.RowKit Go.Deep Pop Bi Am
namespace Bi
theorem index_atc (c : UInt8) (p r : List UInt8) (h : c ∉ p) : Lib.indexByte (p ++ c :: r) c = p.length := by
  induction p with
  | nil => simp [Lib.indexByte]
  | cons d p ih =>
    simp only [List.mem_cons, not_or] at h
    have hc : (d == c) = false := by simp; exact fun e => h.1 e.symm
    rw [List.cons_append, Lib.indexByte, hc, ih h.2]
    simp
theorem index_none (c : UInt8) (p : List UInt8) (h : c ∉ p) : Lib.indexByte p c = -1 := by
  induction p with
  | nil => simp [Lib.indexByte]
  | cons d p ih =>
    simp only [List.mem_cons, not_or] at h
    have hc : (d == c) = false := by simp; exact fun e => h.1 e.symm
    rw [Lib.indexByte, hc, ih h.2]
    simp
/-- Where a dash stands first, at j or behind it. -/
def DashI (l : List UInt8) (j : Nat) (v : Int) : Prop :=
  (v = -1 ∧ ∀ i (h : i < l.length), j ≤ i → l[i] ≠ 45) ∨ ∃ d, ∃ hd : d < l.length, v = d ∧ l[d] = 45 ∧ ∀ i (h : i < l.length), j ≤ i → i < d → l[i] ≠ 45
theorem dash_start (l : List UInt8) : DashI l l.length (-1) := .inl ⟨rfl, fun i h hj => absurd h (by omega)⟩
theorem dash_hit {l : List UInt8} {j : Nat} (hj : j < l.length) (hc : l[j] = 45) : DashI l j j := .inr ⟨j, hj, rfl, hc, fun i _ h1 h2 => absurd h1 (by omega)⟩
theorem dash_go {l : List UInt8} {j : Nat} {v : Int} (h : DashI l (j + 1) v) (hj : j < l.length) (hc : l[j] ≠ 45) : DashI l j v := by
  rcases h with ⟨hv, h⟩ | ⟨d, hd, hv, h1, h⟩
  · refine .inl ⟨hv, fun i hi hji => ?_⟩
    rcases Nat.lt_or_eq_of_le hji with h' | rfl
    · exact h i hi h'
    · exact hc
  · refine .inr ⟨d, hd, hv, h1, fun i hi hji hid => ?_⟩
    rcases Nat.lt_or_eq_of_le hji with h' | rfl
    · exact h i hi h' hid
    · exact hc
theorem dash_end {l : List UInt8} {v : Int} (h : DashI l 0 v) : (v = -1 ∧ wordA l = l ∧ wordB l = l) ∨ ∃ d, d < l.length ∧ v = (d : Int) ∧ wordA l = l.take d ∧ wordB l = l.drop (d + 1) := by
  rcases h with ⟨hv, h⟩ | ⟨d, hd, hv, h1, h⟩
  · have hn : (45 : UInt8) ∉ l := fun hm => by
      obtain ⟨i, hi, he⟩ := List.mem_iff_getElem.1 hm
      exact h i hi (Nat.zero_le _) he
    have hc : Lib.cut l [45] = (l, [], false) := by
      unfold Lib.cut
      rw [Lib.index_one, index_none _ _ hn]
      rfl
    exact .inl ⟨hv, by rw [wordA, hc], by rw [wordB, hc]; rfl⟩
  · have hn : (45 : UInt8) ∉ l.take d := fun hm => by
      obtain ⟨i, hi, he⟩ := List.mem_iff_getElem.1 hm
      rw [List.length_take] at hi
      rw [List.getElem_take] at he
      exact h i (by omega) (Nat.zero_le _) (by omega) he
    have hl : l = l.take d ++ 45 :: l.drop (d + 1) := by
      conv => lhs; rw [← List.take_append_drop d l, List.drop_eq_getElem_cons hd, h1]
    have hx : Lib.index l [45] = (d : Int) := by
      rw [Lib.index_one]
      conv => lhs; rw [hl]
      rw [index_atc _ _ _ hn, List.length_take]
      congr 1
      omega
    have hc : Lib.cut l [45] = (l.take d, l.drop (d + 1), true) := by
      unfold Lib.cut
      rw [hx, if_pos (by omega)]
      rfl
    exact .inr ⟨d, hd, hv, by rw [wordA, hc], by rw [wordB, hc]; rfl⟩
theorem numB_is (a : List UInt8) : numB a = (okD a && intB a) := by
  cases h : okD a
  · simp [numB, h]
  · rw [intB_num h]; rfl
theorem digR_is (a : List UInt8) : digR a 1000 = (if okD a then (min (num a) 1001, true) else (0, false)) := rfl
theorem wordsP_ne (s : List UInt8) : wordsP s ≠ [] := by
  have key : ∀ (l p : List UInt8), splitP p l ≠ [] := by
    intro l
    induction l with
    | nil => intro p; simp [splitP]
    | cons c l ih => intro p; simp only [splitP]; split; · simp
                     · exact ih _
  rw [wordsP_is]
  exact key _ _
end Bi
end Go.Proofs.YticmfflnenoplaaDoor
namespace Go.Proofs.YticmfflnenoplaaDoor
open Go.RowKit Go.Deep Pop Bi Am
theorem digR_at (a : List UInt8) : (digR a 1000).1 ≤ 1001 ∧ okD a = (digR a 1000).2 ∧ (okD a = true → (digR a 1000).1 = min (num a) 1001) := by
  rw [digR_is]
  cases okD a
  · exact ⟨Nat.zero_le _, rfl, fun h => by cases h⟩
  · exact ⟨Nat.min_le_right _ _, rfl, fun _ => rfl⟩
theorem gtB_num {a b : List UInt8} (hl : a.length = b.length) (ha : okD a = true) (hb : okD b = true) : (!Op.bytesLess a b && !a == b) = decide (num b < num a) := by
  rw [less_num hl ha hb]
  rcases Nat.lt_trichotomy (num a) (num b) with h | h | h
  · rw [decide_eq_true h, decide_eq_false (by omega)]; rfl
  · have he : a = b := by rw [← dec_num _ a rfl ha, ← dec_num _ b rfl hb, h]
    subst he
    simp
  · have he : ¬ a = b := fun e => by subst e; omega
    have he2 : (a == b) = false := by simp [he]
    rw [decide_eq_false (by omega), decide_eq_true h, he2]; rfl
theorem and4 : ∀ o1 o2 i1 i2 : Bool, (o1 && o2 && (i1 && i2)) = false → (o1 && i1) = false ∨ (o2 && i2) = false := by decide
def RetUIB (r : Nat × Int) (w : World) (e : Ending) (w' : World) : Prop := e = .returned (.tuple #[.int .u64 r.1, .int .i64 r.2]) ∧ Below w.heap.size w w'
theorem RetUIB.of {r : Nat × Int} {a : Nat} {f : Int} {w w' : World} (h : r = (a, f)) (hb : Below w.heap.size w w') : RetUIB r w (.returned (.tuple #[.int .u64 a, .int .i64 f])) w' := by
  subst h; exact ⟨rfl, hb⟩
theorem u8_45 (c : UInt8) : (c.toNat : Int) = 45 ↔ c = 45 := by
  rw [← UInt8.toNat_inj]
  show _ ↔ c.toNat = 45
  omega
section
attribute [local irreducible] numB num goW orR wordA wordB parseP wordsP Lib.cut DashI okD intB strsV digR Op.bytesLess
end
end Go.Proofs.YticmfflnenoplaaDoor
namespace Go.Proofs.YticmfflnenoplaaDoor
open Go.RowKit Go.Deep Pop Bi Am
namespace Bi
theorem inside_bits {a b : Nat} (ha : a < 18446744073709551616) (hb : b < 18446744073709551616) : (a &&& (18446744073709551615 - b) = 0) ↔ (a &&& b = a) := by
  have hn : ∀ i, (18446744073709551615 - b).testBit i = (decide (i < 64) && !b.testBit i) := fun i => by
    rw [show 18446744073709551615 - b = 2 ^ 64 - (b + 1) by omega]
    exact Nat.testBit_two_pow_sub_succ (by simpa using hb) i
  have hah : ∀ i, 64 ≤ i → a.testBit i = false := fun i hi => Nat.testBit_lt_two_pow (Nat.lt_of_lt_of_le ha (by
    have : 2 ^ 64 ≤ 2 ^ i := Nat.pow_le_pow_right (by omega) hi
    simpa using this))
  constructor
  · intro h
    apply Nat.eq_of_testBit_eq
    intro i
    have h2 := congrArg (fun x => x.testBit i) h
    simp only [Nat.testBit_and, hn, Nat.zero_testBit] at h2
    rw [Nat.testBit_and]
    cases h3 : a.testBit i
    · rfl
    · rw [h3] at h2
      by_cases h4 : i < 64
      · simpa [h4] using h2
      · rw [hah i (by omega)] at h3; cases h3
  · intro h
    apply Nat.eq_of_testBit_eq
    intro i
    have h2 := congrArg (fun x => x.testBit i) h
    simp only [Nat.testBit_and] at h2
    rw [Nat.testBit_and, hn, Nat.zero_testBit]
    cases h3 : a.testBit i
    · rfl
    · rw [h3] at h2
      have h4 : b.testBit i = true := by simpa using h2
      rw [h4]
      simp
def insF (a b : Nat) : Bool := decide (a &&& b = a)
end Bi
set_option maxRecDepth 100000 in
set_option maxHeartbeats 2000000 in
theorem Inside_any (a b : Nat) (ha : a < 18446744073709551616) (hb : b < 18446744073709551616) (w : World) : Calls Tryd.prog 24 #[.int .u64 a, .int .u64 b] w (RetB (insF a b) w) := by
  have hq := u64_andNot_nat a b ha hb
  have HF : Hid (insF a b = (((a &&& (18446744073709551615 - b) : Nat) : Int) == 0)) := Lib.hid (by
    rw [Bool.eq_iff_iff, beq_iff_eq, insF, decide_eq_true_eq, ← inside_bits ha hb]
    omega)
  generalize (a &&& (18446744073709551615 - b) : Nat) = q at *
  go_enter Tryd.func24, Tryd.ntmps24
  go_wp2_with fail
  go_ret
  exact ⟨by rw [HF.out]; rfl, rfl⟩
set_option maxRecDepth 100000 in
set_option maxHeartbeats 2000000 in
theorem RCount_any (x : Nat) (hx : x < 18446744073709551616) (w : World) : Calls Tryd.prog 30 #[.int .u64 x] w (fun e w' => e = .returned (.int .i64 ((listF x 64).length : Int)) ∧ Below w.heap.size w w') := by
  have HR := Lib.hid (RList_any x hx w)
  go_enter Tryd.func30, Tryd.ntmps30
  go_wp2_with fail
  refine HR.out.mono ?_
  intro e w1 hP
  have hP2 : RetL (listF x 64) w e w1 := hP
  obtain ⟨A, c, rfl, _, hb1⟩ := hP2
  clear hP HR
  obtain ⟨n, hn⟩ : ∃ n, n = (listF x 64).length := ⟨_, rfl⟩
  rw [← hn]
  go_wp2_with fail
  go_ret
  first | exact ⟨rfl, hb1⟩ | exact ⟨by rw [← hn]; rfl, hb1⟩
end Go.Proofs.YticmfflnenoplaaDoor
namespace Go.Proofs.YticmfflnenoplaaDoor
namespace Tp
open Pop
structure Cpu where
  core : Int
  socket : Int
  node : Int
deriving DecidableEq
/-- The set of the first k that are so. -/
def wh (p : Cpu → Bool) (l : List Cpu) : Nat → Nat
  | 0 => 0
  | k + 1 => if (l[k]?).any p then wh p l k ||| 2 ^ k else wh p l k
theorem wh_lt (p : Cpu → Bool) (l : List Cpu) (k : Nat) : wh p l k < 2 ^ k := by
  induction k with
  | zero => simp [wh]
  | succ k ih =>
    have h2 : (2 : Nat) ^ k < 2 ^ (k + 1) := Nat.pow_lt_pow_right (by omega) (by omega)
    simp only [wh]
    split
    · exact Nat.or_lt_two_pow (Nat.lt_trans ih h2) h2
    · exact Nat.lt_trans ih h2
theorem wh_lt64 (p : Cpu → Bool) (l : List Cpu) (k : Nat) (hk : k ≤ 64) : wh p l k < 18446744073709551616 :=
  Nat.lt_of_lt_of_le (wh_lt p l k) (by have := Nat.pow_le_pow_right (n := 2) (by omega) hk; simpa using this)
theorem wh_next (p : Cpu → Bool) (l : List Cpu) (k : Nat) (h : k < l.length) : wh p l (k + 1) = if p l[k] then wh p l k ||| 2 ^ k else wh p l k := by
  simp [wh, List.getElem?_eq_getElem h]
theorem bit_of (m k : Nat) : bit m k = (m.testBit k).toNat := by
  unfold bit
  rw [Nat.toNat_testBit]
theorem wh_bit (p : Cpu → Bool) (l : List Cpu) (k i : Nat) : (wh p l k).testBit i = (decide (i < k) && (l[i]?).any p) := by
  induction k with
  | zero => simp [wh]
  | succ k ih =>
    simp only [wh]
    split
    · rename_i h
      rw [Nat.testBit_or, ih, Nat.testBit_two_pow]
      by_cases he : k = i
      · subst he; simp [h]
      · have : (decide (i < k + 1)) = decide (i < k) := by simp; omega
        simp [he, this]
    · rename_i h
      rw [ih]
      by_cases he : i = k
      · subst he
        have : (l[i]?).any p = false := by simpa using h
        simp [this]
      · have : (decide (i < k + 1)) = decide (i < k) := by simp; omega
        simp [this]
/-! ### What is wrong with a list -/
def badB (c : Cpu) : Bool := decide (c.core < 0) || decide (63 < c.core) || decide (c.socket < 0) || decide (63 < c.socket) || decide (c.node < 0) || decide (3 < c.node)
def clash (l : List Cpu) (k : Nat) (c : Cpu) : Bool := (l.take k).any fun d => d.core == c.core && d != c
/-- The first fault of the first k. -/
def fault (l : List Cpu) : Nat → Int
  | 0 => 0
  | k + 1 => if fault l k ≠ 0 then fault l k else match l[k]? with
    | none => 0
    | some c => if badB c then 1 else if clash l k c then 3 else 0
def Fault (l : List Cpu) : Int := if l.length < 1 ∨ 64 < l.length then 2 else fault l l.length
theorem fault_mono (l : List Cpu) (k n : Nat) (h : k ≤ n) (hf : fault l k ≠ 0) : fault l n = fault l k := by
  induction n with
  | zero => obtain rfl : k = 0 := by omega
            rfl
  | succ n ih =>
    by_cases he : k = n + 1
    · rw [he]
    · have := ih (by omega)
      simp only [fault]
      rw [this, if_pos hf]
theorem fault_next (l : List Cpu) (k : Nat) (h : k < l.length) (hf : fault l k = 0) : fault l (k + 1) = if badB l[k] then 1 else if clash l k l[k] then 3 else 0 := by
  simp [fault, hf, List.getElem?_eq_getElem h]
theorem fault_pos (l : List Cpu) (k : Nat) : fault l k = 0 ∨ fault l k = 1 ∨ fault l k = 3 := by
  induction k with
  | zero => simp [fault]
  | succ k ih =>
    simp only [fault]
    split
    · exact ih
    · split
      · simp
      · split
        · simp
        · split <;> simp
theorem fault_ok (l : List Cpu) (k : Nat) (hf : fault l k = 0) (i : Nat) (hi : i < k) (h : i < l.length) : badB l[i] = false ∧ clash l i l[i] = false := by
  have h1 : fault l i = 0 := by
    by_cases hz : fault l i = 0
    · exact hz
    · have := fault_mono l i k (by omega) hz
      omega
  have h2 : fault l (i + 1) = 0 := by
    by_cases hz : fault l (i + 1) = 0
    · exact hz
    · have := fault_mono l (i + 1) k (by omega) hz
      omega
  rw [fault_next l i h h1] at h2
  cases hb : badB l[i]
  · cases hc : clash l i l[i]
    · exact ⟨rfl, rfl⟩
    · simp [hb, hc] at h2
  · simp [hb] at h2
/-- The last of the first k that has a core. -/
def lastOf (l : List Cpu) : Nat → Int → Option Cpu
  | 0, _ => none
  | k + 1, q => match l[k]? with
    | none => lastOf l k q
    | some c => if c.core = q then some c else lastOf l k q
theorem lastOf_next (l : List Cpu) (k : Nat) (h : k < l.length) (q : Int) : lastOf l (k + 1) q = if l[k].core = q then some l[k] else lastOf l k q := by
  simp [lastOf, List.getElem?_eq_getElem h]
theorem lastOf_mem (l : List Cpu) (k : Nat) (q : Int) (c : Cpu) (h : lastOf l k q = some c) : c.core = q ∧ ∃ i, i < k ∧ l[i]? = some c := by
  induction k with
  | zero => simp [lastOf] at h
  | succ k ih =>
    simp only [lastOf] at h
    split at h
    · obtain ⟨h1, i, h2, h3⟩ := ih h
      exact ⟨h1, i, by omega, h3⟩
    · rename_i d hd
      split at h
      · rename_i hq
        simp only [Option.some.injEq] at h
        subst h
        exact ⟨hq, k, by omega, hd⟩
      · obtain ⟨h1, i, h2, h3⟩ := ih h
        exact ⟨h1, i, by omega, h3⟩
theorem lastOf_none (l : List Cpu) (k : Nat) (q : Int) (h : lastOf l k q = none) (i : Nat) (hi : i < k) (hl : i < l.length) : l[i].core ≠ q := by
  induction k with
  | zero => omega
  | succ k ih =>
    simp only [lastOf] at h
    by_cases he : i = k
    · subst he
      rw [List.getElem?_eq_getElem hl] at h
      simp only at h
      split at h
      · cases h
      · assumption
    · split at h
      · exact ih h (by omega)
      · split at h
        · cases h
        · exact ih h (by omega)
theorem clash_iff (l : List Cpu) (k : Nat) (c : Cpu) : clash l k c = true ↔ ∃ i, ∃ h : i < l.length, i < k ∧ l[i].core = c.core ∧ l[i] ≠ c := by
  unfold clash
  rw [List.any_eq_true]
  constructor
  · rintro ⟨d, hd, h⟩
    obtain ⟨i, hi, rfl⟩ := List.mem_iff_getElem.1 hd
    simp only [List.length_take] at hi
    simp only [List.getElem_take, Bool.and_eq_true, beq_iff_eq, bne_iff_ne] at h
    exact ⟨i, by omega, by omega, h.1, h.2⟩
  · rintro ⟨i, h, h1, h2, h3⟩
    refine ⟨l[i], List.mem_iff_getElem.2 ⟨i, by simp; omega, by simp⟩, by simp [h2, h3]⟩
/-- What the program asks of its map is what the document asks of the list. -/
theorem clash_last (l : List Cpu) (k : Nat) (hf : fault l k = 0) (c : Cpu) : clash l k c = match lastOf l k c.core with | none => false | some d => decide (d ≠ c) := by
  cases hl : lastOf l k c.core with
  | none =>
    simp only
    cases hc : clash l k c
    · rfl
    · obtain ⟨i, h, h1, h2, h3⟩ := (clash_iff l k c).1 hc
      exact absurd h2 (lastOf_none l k _ hl i h1 h)
  | some d =>
    obtain ⟨h1, i, hi, hd⟩ := lastOf_mem l k _ d hl
    obtain ⟨hil, hd⟩ := List.getElem?_eq_some_iff.1 hd
    simp only
    by_cases he : d = c
    · simp only [he, ne_eq, not_true_eq_false, decide_false]
      cases hc : clash l k c
      · rfl
      · obtain ⟨j, h, h2, h3, h4⟩ := (clash_iff l k c).1 hc
        exfalso
        subst he
        rcases Nat.lt_trichotomy i j with hij | hij | hij
        · have := (fault_ok l k hf j h2 h).2
          have h5 := (clash_iff l j l[j]).2 ⟨i, hil, hij, by rw [hd, h3], by rw [hd]; exact fun e => h4 e.symm⟩
          rw [this] at h5
          cases h5
        · subst hij
          exact h4 hd
        · have := (fault_ok l k hf i hi hil).2
          have h5 := (clash_iff l i l[i]).2 ⟨j, h, hij, by rw [hd, h3], by rw [hd]; exact h4⟩
          rw [this] at h5
          cases h5
    · have : clash l k c = true := (clash_iff l k c).2 ⟨i, hil, hi, by rw [hd, h1], by rw [hd]; exact he⟩
      rw [this]
      simp [he]
/-! ### How many of a set on each node -/
def cntOn (l : List Cpu) (s : Nat) (q : Nat) : Nat → Nat
  | 0 => 0
  | k + 1 => cntOn l s q k + (if s.testBit k && (l[k]?).any (fun c => c.node == (q : Int)) then 1 else 0)
theorem cnt_and (l : List Cpu) (s q k n : Nat) : cnt (s &&& wh (fun c => c.node == (q : Int)) l n) k = cntOn l s q (min k n) := by
  induction k with
  | zero => simp [cnt, cntOn]
  | succ k ih =>
    simp only [cnt]
    rw [ih, bit_of, Nat.testBit_and, wh_bit]
    by_cases hk : k < n
    · rw [show min (k + 1) n = min k n + 1 by omega, show min k n = k by omega]
      simp only [cntOn, hk, decide_true, Bool.true_and]
      cases s.testBit k && (l[k]?).any (fun c => c.node == (q : Int)) <;> rfl
    · rw [show min (k + 1) n = min k n by omega]
      simp [hk]
theorem cntOn_next (l : List Cpu) (s q k : Nat) (h : k < l.length) : cntOn l s q (k + 1) = cntOn l s q k + (if s.testBit k && (l[k].node == (q : Int)) then 1 else 0) := by
  simp [cntOn, List.getElem?_eq_getElem h]
theorem cntOn_le (l : List Cpu) (s q k : Nat) : cntOn l s q k ≤ k := by
  induction k with
  | zero => simp [cntOn]
  | succ k ih =>
    simp only [cntOn]
    split <;> omega
end Tp
end Go.Proofs.YticmfflnenoplaaDoor
namespace Go.Proofs.YticmfflnenoplaaDoor
open Pop Bi Tp
namespace Pk
def M64 : Nat := 18446744073709551616
/-- What is in one set and not in another one. -/
def dif (a b : Nat) : Nat := a &&& (18446744073709551615 - b)
theorem dif_bit {a b : Nat} (ha : a < 18446744073709551616) (hb : b < 18446744073709551616) (i : Nat) : (dif a b).testBit i = (a.testBit i && !b.testBit i) := by
  have hn : (18446744073709551615 - b).testBit i = (decide (i < 64) && !b.testBit i) := by
    rw [show 18446744073709551615 - b = 2 ^ 64 - (b + 1) by omega]
    exact Nat.testBit_two_pow_sub_succ (by simpa using hb) i
  have hah : 64 ≤ i → a.testBit i = false := fun hi => by rw [← bit_test]; exact bit_high ha hi
  unfold dif
  rw [Nat.testBit_and, hn]
  by_cases h : i < 64
  · simp [h]
  · simp [h, hah (by omega)]
theorem dif_le (a b : Nat) : dif a b ≤ a := Nat.and_le_left
theorem dif_lt {a : Nat} (b : Nat) (ha : a < 18446744073709551616) : dif a b < 18446744073709551616 := Nat.lt_of_le_of_lt (dif_le a b) ha
theorem cnt_le64 (a : Nat) : cnt a 64 ≤ 64 := by
  rw [← listF_cnt]
  exact listF_len a 64
/-- Who takes: what is free, what was taken, how many more. -/
structure Hd where
  free : Nat
  taken : Nat
  left : Nat
def Hd.ok (h : Hd) : Prop := h.free < 18446744073709551616 ∧ h.taken < 18446744073709551616
def tk (h : Hd) (s : Nat) : Hd := ⟨dif h.free s, h.taken ||| s, h.left - cnt s 64⟩
theorem tk_ok {h : Hd} {s : Nat} (hh : h.ok) (hs : s < 18446744073709551616) : (tk h s).ok := ⟨dif_lt _ hh.1, or_lt hh.2 hs⟩
def fitB (h : Hd) (s : Nat) : Bool := decide (s ≠ 0) && insF s h.free && decide (cnt s 64 ≤ h.left)
/-- Whole groups. -/
def wholeP (g : Nat → Nat) : Nat → Hd → Hd
  | 0, h => h
  | k + 1, h => if fitB (wholeP g k h) (g k) then tk (wholeP g k h) (g k) else wholeP g k h
theorem wholeP_ok {g : Nat → Nat} (hg : ∀ k, g k < 18446744073709551616) {h : Hd} (hh : h.ok) : ∀ k, (wholeP g k h).ok
  | 0 => hh
  | k + 1 => by
    rw [wholeP]
    split
    · exact tk_ok (wholeP_ok hg hh k) (hg k)
    · exact wholeP_ok hg hh k
theorem wholeP_left {g : Nat → Nat} {h : Hd} : ∀ k, (wholeP g k h).left ≤ h.left
  | 0 => Nat.le_refl _
  | k + 1 => by
    have := wholeP_left (g := g) (h := h) k
    rw [wholeP]
    split
    · show (wholeP g k h).left - _ ≤ _
      omega
    · exact this
theorem tk_sub {h : Hd} {s : Nat} (hf : h.free < 18446744073709551616) (hs : s < 18446744073709551616) : ∀ i, (tk h s).free.testBit i = true → h.free.testBit i = true := fun i hi => by
  have : (dif h.free s).testBit i = true := hi
  rw [dif_bit hf hs] at this
  simp only [Bool.and_eq_true] at this
  exact this.1
theorem wholeP_sub {g : Nat → Nat} (hg : ∀ k, g k < 18446744073709551616) {h : Hd} (hh : h.ok) : ∀ k i, (wholeP g k h).free.testBit i = true → h.free.testBit i = true
  | 0, i, hi => hi
  | k + 1, i, hi => by
    rw [wholeP] at hi
    split at hi
    · exact wholeP_sub hg hh k i (tk_sub (wholeP_ok hg hh k).1 (hg k) i hi)
    · exact wholeP_sub hg hh k i hi
/-! ### Single ones -/
/-- One is put into a sorted row. -/
def insK (κ : Int → Int) (x : Int) : List Int → List Int
  | [] => [x]
  | y :: l => if κ x < κ y ∨ (κ x = κ y ∧ x < y) then x :: y :: l else y :: insK κ x l
def sortK (κ : Int → Int) (l : List Int) : List Int := l.foldr (insK κ) []
theorem insK_perm (κ : Int → Int) (x : Int) : ∀ l, (insK κ x l).Perm (x :: l)
  | [] => List.Perm.refl _
  | y :: l => by
    rw [insK]
    split
    · exact List.Perm.refl _
    · exact ((insK_perm κ x l).cons y).trans (List.Perm.swap x y l)
theorem insK_sd {κ : Int → Int} {x : Int} : ∀ {l : List Int}, Ps.Sd κ l → x ∉ l → Ps.Sd κ (insK κ x l)
  | [], _, _ => List.pairwise_singleton _ _
  | y :: l, h, hx => by
    obtain ⟨h1, h2⟩ := List.pairwise_cons.1 h
    rw [insK]
    split
    · rename_i hc
      refine List.pairwise_cons.2 ⟨fun z hz => ?_, h⟩
      rcases List.mem_cons.1 hz with rfl | hz
      · exact hc
      · exact Ps.R.trans hc (h1 z hz)
    · rename_i hc
      have hne : x ≠ y := fun e => hx (by simp [e])
      refine List.pairwise_cons.2 ⟨fun z hz => ?_, insK_sd h2 (fun e => hx (List.mem_cons_of_mem _ e))⟩
      rcases List.mem_cons.1 ((insK_perm κ x l).subset hz) with rfl | hz
      · unfold Ps.R
        omega
      · exact h1 z hz
theorem sortK_perm (κ : Int → Int) : ∀ l, (sortK κ l).Perm l
  | [] => List.Perm.refl _
  | x :: l => (insK_perm κ x _).trans ((sortK_perm κ l).cons x)
theorem sortK_sd {κ : Int → Int} : ∀ {l : List Int}, l.Nodup → Ps.Sd κ (sortK κ l)
  | [], _ => List.Pairwise.nil
  | x :: l, h => by
    obtain ⟨h1, h2⟩ := List.nodup_cons.1 h
    exact insK_sd (sortK_sd h2) (fun e => h1 ((sortK_perm κ l).subset e))
/-- A set's numbers as integers. -/
def ints (s : Nat) : List Int := (listF s 64).map fun n : Nat => (n : Int)
theorem ints_len (s : Nat) : (ints s).length = cnt s 64 := by rw [ints, List.length_map, listF_cnt]
theorem listF_ris (s k : Nat) : (listF s k).Pairwise (· < ·) := (List.pairwise_lt_range).filter _
theorem ints_ris (s : Nat) : (ints s).Pairwise (· < ·) := by
  unfold ints
  rw [List.pairwise_map]
  exact (listF_ris s 64).imp fun h => by omega
theorem ints_mem {s : Nat} {x : Int} : x ∈ ints s ↔ ∃ n : Nat, x = n ∧ n < 64 ∧ inS s n = true := by
  simp only [ints, listF, List.mem_map, List.mem_filter, List.mem_range]
  constructor
  · rintro ⟨n, ⟨h1, h2⟩, rfl⟩; exact ⟨n, rfl, h1, h2⟩
  · rintro ⟨n, rfl, h1, h2⟩; exact ⟨n, ⟨h1, h2⟩, rfl⟩
theorem ints_nodup (s : Nat) : (ints s).Nodup := (ints_ris s).imp fun h => by omega
/-- How many of a processor's core are free. -/
def coreM (l : List Cpu) (n : Int) : Nat := wh (fun c => c.core == n) l l.length
def sockM (l : List Cpu) (n : Int) : Nat := wh (fun c => c.socket == n) l l.length
def onM (l : List Cpu) (p : Cpu → Bool) : Nat := wh p l l.length
def coreOf (l : List Cpu) (x : Int) : Int := (l.getD x.toNat ⟨0, 0, 0⟩).core
def kap (l : List Cpu) (free : Nat) (x : Int) : Int := (cnt (coreM l (coreOf l x) &&& free) 64 : Nat)
theorem kap_bd (l : List Cpu) (free : Nat) (x : Int) : 0 ≤ kap l free x ∧ kap l free x ≤ 64 := by
  have := cnt_le64 (coreM l (coreOf l x) &&& free)
  unfold kap
  omega
/-- The first so many of a row are taken. -/
def singles (h : Hd) : List Int → Hd
  | [] => h
  | x :: l => singles (tk h (2 ^ x.toNat)) l
theorem singles_snoc (h : Hd) (l : List Int) (x : Int) : singles h (l ++ [x]) = tk (singles h l) (2 ^ x.toNat) := by
  induction l generalizing h with
  | nil => rfl
  | cons y l ih => exact ih _
theorem singles_ok {l : List Int} (hl : ∀ x ∈ l, x.toNat < 64) : ∀ {h : Hd}, h.ok → (singles h l).ok := by
  induction l with
  | nil => intro h hh; exact hh
  | cons x l ih => intro h hh; exact ih (fun y hy => hl y (List.mem_cons_of_mem _ hy)) (tk_ok hh (pow_lt (hl x (by simp))))
def row (l : List Cpu) (free : Nat) : List Int := sortK (kap l free) (ints free)
def singleP (l : List Cpu) (h : Hd) : Hd := singles h ((row l h.free).take (min h.left (row l h.free).length))
theorem row_len (l : List Cpu) (free : Nat) : (row l free).length = cnt free 64 := by rw [row, (sortK_perm _ _).length_eq, ints_len]
theorem row_lt (l : List Cpu) (free : Nat) : ∀ x ∈ row l free, 0 ≤ x ∧ x.toNat < 64 := fun x hx => by
  obtain ⟨n, rfl, h, _⟩ := ints_mem.1 ((sortK_perm _ _).subset hx)
  omega
/-- Sockets, cores, single ones. -/
def someP (l : List Cpu) (h : Hd) (frm : Nat) : Hd :=
  let h1 : Hd := { h with free := h.free &&& frm }
  let h4 := singleP l (wholeP (fun n => coreM l n) 64 (wholeP (fun n => sockM l n) 64 h1))
  { h4 with free := dif h.free h4.taken }
def takeP (l : List Cpu) (free : Nat) (many : Int) (on : Nat) : Nat × Int :=
  if many < 0 ∨ 64 < many ∨ insF free (onM l fun _ => true) = false then (0, 1)
  else if (cnt free 64 : Int) < many then (0, 8)
  else ((someP l (someP l ⟨free, 0, many.toNat⟩ on) (onM l fun _ => true)).taken, 0)
theorem pow_cnt {n : Nat} (h : n < 64) : cnt (2 ^ n) 64 = 1 := by
  rw [← listF_cnt]
  have : listF (2 ^ n) 64 = [n] := by
    have key : ∀ k, listF (2 ^ n) k = if n < k then [n] else [] := by
      intro k
      induction k with
      | zero => simp [listF]
      | succ k ih =>
        have hb : inS (2 ^ n) k = decide (n = k) := by rw [bit_test, Nat.testBit_two_pow]
        by_cases hk : n = k
        · rw [listF_yes (by rw [hb]; simp [hk]), ih, if_neg (by omega), if_pos (by omega), hk]
          rfl
        · rw [listF_no (by rw [hb]; simp [hk]), ih]
          by_cases h2 : n < k
          · rw [if_pos h2, if_pos (by omega)]
          · rw [if_neg h2, if_neg (by omega)]
    rw [key, if_pos h]
  rw [this]
  rfl
end Pk
end Go.Proofs.YticmfflnenoplaaDoor
namespace Go.Proofs.YticmfflnenoplaaDoor
open Go.RowKit Go.Deep Pop Bi Am
namespace Bi
def ex : List UInt8 := [48, 45, 50, 44, 55]
theorem ex_words : wordsP ex = [[48, 45, 50], [55]] := by rw [wordsP_is]; decide
theorem ex_parse : parseP ex = (135, 0) := by
  unfold parseP
  rw [if_neg (by decide), if_neg (by decide), ex_words]
  decide
theorem dec1 (n : Nat) (h : n < 10) : Lib.decDigits n = [UInt8.ofNat (48 + n)] := by rw [Lib.decDigits, dif_pos h]
theorem ex_text : textP 135 = ex := by
  have hs : spans 135 0 = [(0, 2), (7, 7)] := by decide
  unfold textP
  rw [hs]
  simp only [List.map_cons, List.map_nil, spanT, Am.itoa_nat]
  rw [dec1 0 (by omega), dec1 2 (by omega), dec1 7 (by omega)]
  decide
end Bi
section
attribute [local irreducible] parseP textP
end
end Go.Proofs.YticmfflnenoplaaDoor
namespace Go.Proofs.YticmfflnenoplaaDoor
open Go.RowKit Go.Deep Pop Bi Am
theorem ofP_lt (l : List Int) : (ofP l).1 < 18446744073709551616 ∧ ((ofP l).2 = 0 ∨ (ofP l).2 = 1) := by
  have key : ∀ (l : List Int) (a : Nat), a < 18446744073709551616 → (ofA a l).1 < 18446744073709551616 ∧ ((ofA a l).2 = 0 ∨ (ofA a l).2 = 1) := by
    intro l
    induction l with
    | nil => intro a ha; exact ⟨ha, .inl rfl⟩
    | cons x l ih =>
      intro a ha
      rw [ofA]
      split
      · exact ⟨by decide, .inr rfl⟩
      · exact ih _ (or_lt ha (pow_lt (by omega)))
  exact key l 0 (by omega)
theorem goW_sure (L : List (List UInt8)) : ∀ a, a < 18446744073709551616 → (goW a L).1 < 18446744073709551616 ∧ 0 ≤ (goW a L).2 := by
  induction L with
  | nil => intro a ha; exact ⟨ha, by simp [goW]⟩
  | cons x L ih =>
    intro a ha
    rw [goW]
    split
    · exact ⟨by decide, by decide⟩
    · rename_i h1
      split
      · exact ⟨by decide, by decide⟩
      · have h3 : ¬ num (wordB x) < num (wordA x) := fun h => h1 (by simp [h])
        exact ih _ (orR_lt ha (by omega))
theorem parseP_sure (s : List UInt8) : (parseP s).1 < 18446744073709551616 ∧ 0 ≤ (parseP s).2 := by
  unfold parseP
  split
  · exact ⟨by decide, by decide⟩
  · split
    · exact ⟨by decide, by decide⟩
    · exact goW_sure _ 0 (by omega)
end Go.Proofs.YticmfflnenoplaaDoor
namespace Go.Proofs.YticmfflnenoplaaDoor
open Am Pop
namespace Bi
theorem splitP_word : ∀ (w p l : List UInt8), (44 : UInt8) ∉ w → splitP p (w ++ l) = splitP (p ++ w) l
  | [], p, l, _ => by simp
  | c :: w, p, l, h => by
    simp only [List.mem_cons, not_or] at h
    rw [List.cons_append, splitP, if_neg (fun e => h.1 e.symm), splitP_word w _ l h.2]
    simp
theorem join_cons2 (a b : List UInt8) (l : List (List UInt8)) : Lib.join (a :: b :: l) [44] = a ++ 44 :: Lib.join (b :: l) [44] := by simp [Lib.join, List.intercalate]
theorem join_one (a : List UInt8) : Lib.join [a] [44] = a := by simp [Lib.join, List.intercalate]
theorem words_join (l : List (List UInt8)) (hne : l ≠ []) (h : ∀ w ∈ l, (44 : UInt8) ∉ w) : wordsP (Lib.join l [44]) = l := by
  rw [wordsP_is]
  induction l with
  | nil => exact absurd rfl hne
  | cons a l ih =>
    cases l with
    | nil =>
      rw [join_one]
      have := splitP_word a [] [] (h a (by simp))
      rw [List.append_nil] at this
      rw [this]
      rfl
    | cons b l =>
      rw [join_cons2, splitP_word a [] _ (h a (by simp)), splitP, if_pos rfl, ih (by simp) (fun w hw => h w (by simp [hw]))]
      simp
theorem cut_yes {p : List UInt8} (r : List UInt8) (h : (45 : UInt8) ∉ p) : Lib.cut (p ++ 45 :: r) [45] = (p, r, true) := by
  unfold Lib.cut
  rw [Lib.index_one, index_atc _ _ _ h, if_pos (by omega)]
  simp
theorem cut_not {p : List UInt8} (h : (45 : UInt8) ∉ p) : Lib.cut p [45] = (p, [], false) := by
  unfold Lib.cut
  rw [Lib.index_one, index_none _ _ h]
  rfl
theorem itoa_no (n : Nat) (c : UInt8) (hc : isD c = false) : c ∉ Lib.itoa (n : Int) := by
  rw [itoa_nat]
  exact not_mem_dig (dec_facts n).1 c hc
theorem span_no (p : Nat × Nat) : (44 : UInt8) ∉ spanT p := by
  unfold spanT
  rw [List.mem_append]
  rintro (h | h)
  · exact itoa_no _ _ (by decide) h
  · split at h
    · rcases List.mem_cons.1 h with h | h
      · exact absurd h (by decide)
      · exact itoa_no _ _ (by decide) h
    · cases h
theorem word_span {p : Nat × Nat} (h : p.1 ≤ p.2) : wordA (spanT p) = Lib.itoa (p.1 : Int) ∧ wordB (spanT p) = Lib.itoa (p.2 : Int) := by
  rcases Nat.lt_or_ge p.1 p.2 with hlt | hge
  · rw [spanT_two hlt]
    unfold wordA wordB
    rw [cut_yes _ (itoa_no _ _ (by decide))]
    exact ⟨rfl, rfl⟩
  · have e : p.1 = p.2 := by omega
    rw [spanT_one hge]
    unfold wordA wordB
    rw [cut_not (itoa_no _ _ (by decide)), e]
    exact ⟨rfl, rfl⟩
theorem num_itoa (n : Nat) : num (Lib.itoa (n : Int)) = n := by rw [itoa_nat]; exact (dec_facts n).2.1
theorem numB_itoa {n : Nat} (h : n < 64) : numB (Lib.itoa (n : Int)) = true := by
  unfold numB
  rw [num_itoa, itoa_nat, dec_ok]
  simp
  omega
theorem orR_bit (s a k i : Nat) : (orR s a k).testBit i = (s.testBit i || (decide (a ≤ i) && decide (i < a + k))) := by
  induction k with
  | zero =>
    rw [orR]
    by_cases h : a ≤ i
    · simp [show ¬ i < a by omega]
    · simp [h]
  | succ k ih =>
    rw [orR, Nat.testBit_or, ih, Nat.testBit_two_pow, Bool.or_assoc]
    congr 1
    rw [Bool.eq_iff_iff]
    simp
    omega
theorem end_in {x : Nat} (hx : x < 18446744073709551616) : ∀ (d n : Nat), 64 ≤ n + d → inS x n = true → (∀ i, n ≤ i → i ≤ endR x n → inS x i = true) ∧ inS x (endR x n + 1) = false := by
  intro d
  induction d with
  | zero => intro n hn h; rw [bit_high hx (by omega)] at h; cases h
  | succ d ih =>
    intro n hn h
    cases h1 : inS x (n + 1)
    · rw [endR_no h1]
      exact ⟨fun i h2 h3 => by obtain rfl : i = n := by omega
                               exact h, h1⟩
    · rw [endR_yes hx h1]
      obtain ⟨h2, h3⟩ := ih (n + 1) (by omega) h1
      refine ⟨fun i h4 h5 => ?_, h3⟩
      rcases Nat.eq_or_lt_of_le h4 with rfl | h6
      · exact h
      · exact h2 i h6 h5
theorem spans_go {x : Nat} (hx : x < 18446744073709551616) : ∀ (f n out : Nat), 64 ≤ n + f → ∃ r, goW out ((spansF x f n).map spanT) = (r, 0) ∧ ∀ i, r.testBit i = (out.testBit i || (decide (n ≤ i) && x.testBit i)) := by
  have hend : ∀ (n out : Nat), 64 ≤ n → ∃ r, goW out [] = (r, 0) ∧ ∀ i, r.testBit i = (out.testBit i || (decide (n ≤ i) && x.testBit i)) := by
    intro n out hn
    refine ⟨out, rfl, fun i => ?_⟩
    by_cases h : n ≤ i
    · rw [← bit_test x i, bit_high hx (by omega)]; simp
    · simp [h]
  intro f
  induction f with
  | zero => intro n out hn; exact hend n out (by omega)
  | succ f ih =>
    intro n out hn
    rw [spansF]
    split
    · exact hend n out (by assumption)
    · rename_i h64
      have hge := endR_ge x n
      have hlt := endR_lt hx (show n < 64 by omega)
      cases h : inS x n
      · simp only [Bool.false_eq_true, if_false]
        obtain ⟨r, h1, h2⟩ := ih (n + 1) out (by omega)
        refine ⟨r, h1, fun i => ?_⟩
        rw [h2 i]
        congr 1
        by_cases hi : i = n
        · subst hi
          rw [← bit_test x i, h]; simp
        · congr 1
          rw [Bool.eq_iff_iff]
          simp
          omega
      · simp only [if_true]
        obtain ⟨hin, _⟩ := end_in hx 64 n (by omega) h
        rw [List.map_cons, goW]
        obtain ⟨hA, hB⟩ := word_span (p := (n, endR x n)) hge
        rw [hA, hB, numB_itoa (by omega), numB_itoa hlt, num_itoa, num_itoa, if_neg (by simp; omega), if_neg (by omega)]
        obtain ⟨r, h1, h2⟩ := ih (endR x n + 1) (orR out n (endR x n + 1 - n)) (by omega)
        refine ⟨r, h1, fun i => ?_⟩
        rw [h2 i, orR_bit, Bool.or_assoc]
        congr 1
        by_cases h3 : n ≤ i ∧ i ≤ endR x n
        · rw [← bit_test x i, hin i h3.1 h3.2]
          simp [h3.1]
          omega
        · rw [Bool.eq_iff_iff]
          simp
          constructor
          · rintro (h4 | h4)
            · omega
            · exact ⟨by omega, h4.2⟩
          · rintro ⟨h4, h5⟩
            exact .inr ⟨by omega, h5⟩
theorem spans_few {x : Nat} (hx : x < 18446744073709551616) : ∀ (f n : Nat), 2 * (spansF x f n).length ≤ 65 - n ∧ (inS x n = false → 2 * (spansF x f n).length ≤ 64 - n) := by
  intro f
  induction f with
  | zero => intro n; simp [spansF]
  | succ f ih =>
    intro n
    rw [spansF]
    split
    · simp
    · rename_i h64
      have hge := endR_ge x n
      have hlt := endR_lt hx (show n < 64 by omega)
      cases h : inS x n
      · simp only [Bool.false_eq_true, if_false]
        have := (ih (n + 1)).1
        exact ⟨by omega, fun _ => by omega⟩
      · simp only [if_true, List.length_cons]
        have := (ih (endR x n + 1)).2 (end_in hx 64 n (by omega) h).2
        exact ⟨by omega, fun h => by cases h⟩
theorem spans_lt {x : Nat} (hx : x < 18446744073709551616) : ∀ (f n : Nat), ∀ p ∈ spansF x f n, p.1 < 64 ∧ p.2 < 64 := by
  intro f
  induction f with
  | zero => intro n p h; cases h
  | succ f ih =>
    intro n p hp
    rw [spansF] at hp
    split at hp
    · cases hp
    · split at hp
      · rcases List.mem_cons.1 hp with rfl | hp
        · exact ⟨by show n < 64; omega, endR_lt hx (by omega)⟩
        · exact ih _ _ hp
      · exact ih _ _ hp
theorem spansT_len {ps : List (Nat × Nat)} (h : ∀ p ∈ ps, p.1 < 64 ∧ p.2 < 64) : (Lib.join (ps.map spanT) [44]).length ≤ 6 * ps.length := join_len h
/-- What is written is read. -/
theorem parse_text {a : Nat} (ha : a < 18446744073709551616) : parseP (textP a) = (a, 0) ∧ (textP a).length ≤ 200 := by
  obtain ⟨r, h1, h2⟩ := spans_go ha 64 0 0 (by omega)
  have hr : r = a := by
    apply Nat.eq_of_testBit_eq
    intro i
    rw [h2 i]
    simp
  rw [hr] at h1
  have hl := spansT_len (spans_lt ha 64 0)
  have hf := (spans_few ha 64 0).1
  have e : spans a 0 = spansF a 64 0 := rfl
  have hlen : (textP a).length ≤ 200 := by
    unfold textP
    rw [e]
    omega
  refine ⟨?_, hlen⟩
  unfold parseP
  rw [if_neg (by omega)]
  by_cases hne : spans a 0 = []
  · have ht : textP a = [] := by unfold textP; rw [hne]; rfl
    rw [if_pos ht]
    rw [← e, hne] at h1
    exact h1
  · have hpos : 0 < (textP a).length := join_pos (by rw [e]; exact spans_lt ha 64 0) hne
    rw [if_neg (by intro h; rw [h] at hpos; simp at hpos)]
    unfold textP
    rw [words_join _ (by simpa using hne) (by
      intro w hw
      obtain ⟨p, _, rfl⟩ := List.mem_map.1 hw
      exact span_no p), e]
    exact h1
theorem text_inj {a b : Nat} (ha : a < 18446744073709551616) (hb : b < 18446744073709551616) : textP a = textP b ↔ a = b := by
  constructor
  · intro h
    have h1 := (parse_text ha).1
    rw [h, (parse_text hb).1] at h1
    exact (congrArg Prod.fst h1).symm
  · rintro rfl; rfl
theorem of_list {a : Nat} (ha : a < 18446744073709551616) : ofP ((listF a 64).map fun n : Nat => (n : Int)) = (a, 0) := by
  have key : ∀ (L : List Nat) (s : Nat), (∀ n ∈ L, n < 64) → ∃ r, ofA s (L.map fun n : Nat => (n : Int)) = (r, 0) ∧ ∀ i, r.testBit i = (s.testBit i || decide (i ∈ L)) := by
    intro L
    induction L with
    | nil => intro s _; exact ⟨s, rfl, fun i => by simp⟩
    | cons n L ih =>
      intro s h
      have hn := h n (by simp)
      rw [List.map_cons, ofA, if_neg (by omega)]
      obtain ⟨r, h1, h2⟩ := ih (s ||| 2 ^ n) (fun m hm => h m (by simp [hm]))
      refine ⟨r, h1, fun i => ?_⟩
      rw [h2 i, Nat.testBit_or, Nat.testBit_two_pow, Bool.or_assoc]
      congr 1
      by_cases he : n = i
      · simp [he]
      · have hne : ¬ i = n := fun e => he e.symm
        simp [he, hne]
  obtain ⟨r, h1, h2⟩ := key (listF a 64) 0 (fun n hn => by simp [listF] at hn; exact hn.1)
  unfold ofP
  rw [h1]
  congr 1
  apply Nat.eq_of_testBit_eq
  intro i
  rw [h2 i]
  simp only [Nat.zero_testBit, Bool.false_or, listF, List.mem_filter, List.mem_range, bit_test]
  by_cases hi : i < 64
  · simp [hi]
  · have := bit_high ha (show 64 ≤ i by omega)
    rw [bit_test] at this
    simp [hi, this]
theorem bit_eq (x n : Nat) : bit x n = (x.testBit n).toNat := by
  rw [← bit_test]
  rcases bit_01 x n with h | h
  · rw [inS_no.2 h, h]; rfl
  · rw [inS_iff.2 h, h]; rfl
theorem cnt_and_or (a b k : Nat) : cnt (a &&& b) k + cnt (a ||| b) k = cnt a k + cnt b k := by
  induction k with
  | zero => rfl
  | succ k ih =>
    have e : bit (a &&& b) k + bit (a ||| b) k = bit a k + bit b k := by
      simp only [bit_eq, Nat.testBit_and, Nat.testBit_or]
      cases a.testBit k <;> cases b.testBit k <;> rfl
    show cnt (a &&& b) k + bit (a &&& b) k + (cnt (a ||| b) k + bit (a ||| b) k) = cnt a k + bit a k + (cnt b k + bit b k)
    omega
theorem ins_and (a b : Nat) : insF (a &&& b) a = true := by
  unfold insF
  rw [decide_eq_true_eq]
  apply Nat.eq_of_testBit_eq
  intro i
  simp only [Nat.testBit_and]
  cases a.testBit i <;> cases b.testBit i <;> rfl
theorem text_six : textP 6 = [49, 45, 50] := by
  have h : spans 6 0 = [(1, 2)] := by decide
  unfold textP
  rw [h]
  have h1 : Lib.itoa ((1 : Nat) : Int) = [49] := by rw [itoa_nat, dec_lo _ (by omega)]; decide
  have h2 : Lib.itoa ((2 : Nat) : Int) = [50] := by rw [itoa_nat, dec_lo _ (by omega)]; decide
  simp only [List.map_cons, List.map_nil, join_one]
  rw [spanT_two (by decide)]
  show Lib.itoa ((1 : Nat) : Int) ++ 45 :: Lib.itoa ((2 : Nat) : Int) = _
  rw [h1, h2]
  rfl
end Bi
end Go.Proofs.YticmfflnenoplaaDoor
