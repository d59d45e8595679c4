/- Sets of processors: what is written is read. Plain. No program is named here; no statement is proved here. -/
import Derived.Test.YticmfflnenoplacDoorBiX
namespace Go.Proofs.YticmfflnenoplacDoor
open Am Pop
namespace Bi
theorem splitP_word : ∀ (w p l : List UInt8), (44 : UInt8) ∉ w → splitP p (w ++ l) = splitP (p ++ w) l
  | [], p, l, _ => by simp
  | c :: w, p, l, h => by
    simp only [List.mem_cons, not_or] at h
    rw [List.cons_append, splitP, if_neg (fun e => h.1 e.symm), splitP_word w _ l h.2]
    simp
theorem join_cons2 (a b : List UInt8) (l : List (List UInt8)) : Lib.join (a :: b :: l) [44] = a ++ 44 :: Lib.join (b :: l) [44] := by simp [Lib.join, List.intercalate]
theorem join_one (a : List UInt8) : Lib.join [a] [44] = a := by simp [Lib.join, List.intercalate]
theorem words_join (l : List (List UInt8)) (hne : l ≠ []) (h : ∀ w ∈ l, (44 : UInt8) ∉ w) : wordsP (Lib.join l [44]) = l := by
  rw [wordsP_is]
  induction l with
  | nil => exact absurd rfl hne
  | cons a l ih =>
    cases l with
    | nil =>
      rw [join_one]
      have := splitP_word a [] [] (h a (by simp))
      rw [List.append_nil] at this
      rw [this]
      rfl
    | cons b l =>
      rw [join_cons2, splitP_word a [] _ (h a (by simp)), splitP, if_pos rfl, ih (by simp) (fun w hw => h w (by simp [hw]))]
      simp
theorem cut_yes {p : List UInt8} (r : List UInt8) (h : (45 : UInt8) ∉ p) : Lib.cut (p ++ 45 :: r) [45] = (p, r, true) := by
  unfold Lib.cut
  rw [Lib.index_one, index_atc _ _ _ h, if_pos (by omega)]
  simp
theorem cut_not {p : List UInt8} (h : (45 : UInt8) ∉ p) : Lib.cut p [45] = (p, [], false) := by
  unfold Lib.cut
  rw [Lib.index_one, index_none _ _ h]
  rfl
theorem itoa_no (n : Nat) (c : UInt8) (hc : isD c = false) : c ∉ Lib.itoa (n : Int) := by
  rw [itoa_nat]
  exact not_mem_dig (dec_facts n).1 c hc
theorem span_no (p : Nat × Nat) : (44 : UInt8) ∉ spanT p := by
  unfold spanT
  rw [List.mem_append]
  rintro (h | h)
  · exact itoa_no _ _ (by decide) h
  · split at h
    · rcases List.mem_cons.1 h with h | h
      · exact absurd h (by decide)
      · exact itoa_no _ _ (by decide) h
    · cases h
theorem word_span {p : Nat × Nat} (h : p.1 ≤ p.2) : wordA (spanT p) = Lib.itoa (p.1 : Int) ∧ wordB (spanT p) = Lib.itoa (p.2 : Int) := by
  rcases Nat.lt_or_ge p.1 p.2 with hlt | hge
  · rw [spanT_two hlt]
    unfold wordA wordB
    rw [cut_yes _ (itoa_no _ _ (by decide))]
    exact ⟨rfl, rfl⟩
  · have e : p.1 = p.2 := by omega
    rw [spanT_one hge]
    unfold wordA wordB
    rw [cut_not (itoa_no _ _ (by decide)), e]
    exact ⟨rfl, rfl⟩
theorem num_itoa (n : Nat) : num (Lib.itoa (n : Int)) = n := by rw [itoa_nat]; exact (dec_facts n).2.1
theorem numB_itoa {n : Nat} (h : n < 64) : numB (Lib.itoa (n : Int)) = true := by
  unfold numB
  rw [num_itoa, itoa_nat, dec_ok]
  simp
  omega
theorem orR_bit (s a k i : Nat) : (orR s a k).testBit i = (s.testBit i || (decide (a ≤ i) && decide (i < a + k))) := by
  induction k with
  | zero =>
    rw [orR]
    by_cases h : a ≤ i
    · simp [show ¬ i < a by omega]
    · simp [h]
  | succ k ih =>
    rw [orR, Nat.testBit_or, ih, Nat.testBit_two_pow, Bool.or_assoc]
    congr 1
    rw [Bool.eq_iff_iff]
    simp
    omega
theorem end_in {x : Nat} (hx : x < 18446744073709551616) : ∀ (d n : Nat), 64 ≤ n + d → inS x n = true → (∀ i, n ≤ i → i ≤ endR x n → inS x i = true) ∧ inS x (endR x n + 1) = false := by
  intro d
  induction d with
  | zero => intro n hn h; rw [bit_high hx (by omega)] at h; cases h
  | succ d ih =>
    intro n hn h
    cases h1 : inS x (n + 1)
    · rw [endR_no h1]
      exact ⟨fun i h2 h3 => by obtain rfl : i = n := by omega
                               exact h, h1⟩
    · rw [endR_yes hx h1]
      obtain ⟨h2, h3⟩ := ih (n + 1) (by omega) h1
      refine ⟨fun i h4 h5 => ?_, h3⟩
      rcases Nat.eq_or_lt_of_le h4 with rfl | h6
      · exact h
      · exact h2 i h6 h5
theorem spans_go {x : Nat} (hx : x < 18446744073709551616) : ∀ (f n out : Nat), 64 ≤ n + f → ∃ r, goW out ((spansF x f n).map spanT) = (r, 0) ∧ ∀ i, r.testBit i = (out.testBit i || (decide (n ≤ i) && x.testBit i)) := by
  have hend : ∀ (n out : Nat), 64 ≤ n → ∃ r, goW out [] = (r, 0) ∧ ∀ i, r.testBit i = (out.testBit i || (decide (n ≤ i) && x.testBit i)) := by
    intro n out hn
    refine ⟨out, rfl, fun i => ?_⟩
    by_cases h : n ≤ i
    · rw [← bit_test x i, bit_high hx (by omega)]; simp
    · simp [h]
  intro f
  induction f with
  | zero => intro n out hn; exact hend n out (by omega)
  | succ f ih =>
    intro n out hn
    rw [spansF]
    split
    · exact hend n out (by assumption)
    · rename_i h64
      have hge := endR_ge x n
      have hlt := endR_lt hx (show n < 64 by omega)
      cases h : inS x n
      · simp only [Bool.false_eq_true, if_false]
        obtain ⟨r, h1, h2⟩ := ih (n + 1) out (by omega)
        refine ⟨r, h1, fun i => ?_⟩
        rw [h2 i]
        congr 1
        by_cases hi : i = n
        · subst hi
          rw [← bit_test x i, h]; simp
        · congr 1
          rw [Bool.eq_iff_iff]
          simp
          omega
      · simp only [if_true]
        obtain ⟨hin, _⟩ := end_in hx 64 n (by omega) h
        rw [List.map_cons, goW]
        obtain ⟨hA, hB⟩ := word_span (p := (n, endR x n)) hge
        rw [hA, hB, numB_itoa (by omega), numB_itoa hlt, num_itoa, num_itoa, if_neg (by simp; omega), if_neg (by omega)]
        obtain ⟨r, h1, h2⟩ := ih (endR x n + 1) (orR out n (endR x n + 1 - n)) (by omega)
        refine ⟨r, h1, fun i => ?_⟩
        rw [h2 i, orR_bit, Bool.or_assoc]
        congr 1
        by_cases h3 : n ≤ i ∧ i ≤ endR x n
        · rw [← bit_test x i, hin i h3.1 h3.2]
          simp [h3.1]
          omega
        · rw [Bool.eq_iff_iff]
          simp
          constructor
          · rintro (h4 | h4)
            · omega
            · exact ⟨by omega, h4.2⟩
          · rintro ⟨h4, h5⟩
            exact .inr ⟨by omega, h5⟩
theorem spans_few {x : Nat} (hx : x < 18446744073709551616) : ∀ (f n : Nat), 2 * (spansF x f n).length ≤ 65 - n ∧ (inS x n = false → 2 * (spansF x f n).length ≤ 64 - n) := by
  intro f
  induction f with
  | zero => intro n; simp [spansF]
  | succ f ih =>
    intro n
    rw [spansF]
    split
    · simp
    · rename_i h64
      have hge := endR_ge x n
      have hlt := endR_lt hx (show n < 64 by omega)
      cases h : inS x n
      · simp only [Bool.false_eq_true, if_false]
        have := (ih (n + 1)).1
        exact ⟨by omega, fun _ => by omega⟩
      · simp only [if_true, List.length_cons]
        have := (ih (endR x n + 1)).2 (end_in hx 64 n (by omega) h).2
        exact ⟨by omega, fun h => by cases h⟩
theorem spans_lt {x : Nat} (hx : x < 18446744073709551616) : ∀ (f n : Nat), ∀ p ∈ spansF x f n, p.1 < 64 ∧ p.2 < 64 := by
  intro f
  induction f with
  | zero => intro n p h; cases h
  | succ f ih =>
    intro n p hp
    rw [spansF] at hp
    split at hp
    · cases hp
    · split at hp
      · rcases List.mem_cons.1 hp with rfl | hp
        · exact ⟨by show n < 64; omega, endR_lt hx (by omega)⟩
        · exact ih _ _ hp
      · exact ih _ _ hp
theorem spansT_len {ps : List (Nat × Nat)} (h : ∀ p ∈ ps, p.1 < 64 ∧ p.2 < 64) : (Lib.join (ps.map spanT) [44]).length ≤ 6 * ps.length := join_len h
/-- What is written is read. -/
theorem parse_text {a : Nat} (ha : a < 18446744073709551616) : parseP (textP a) = (a, 0) ∧ (textP a).length ≤ 200 := by
  obtain ⟨r, h1, h2⟩ := spans_go ha 64 0 0 (by omega)
  have hr : r = a := by
    apply Nat.eq_of_testBit_eq
    intro i
    rw [h2 i]
    simp
  rw [hr] at h1
  have hl := spansT_len (spans_lt ha 64 0)
  have hf := (spans_few ha 64 0).1
  have e : spans a 0 = spansF a 64 0 := rfl
  have hlen : (textP a).length ≤ 200 := by
    unfold textP
    rw [e]
    omega
  refine ⟨?_, hlen⟩
  unfold parseP
  rw [if_neg (by omega)]
  by_cases hne : spans a 0 = []
  · have ht : textP a = [] := by unfold textP; rw [hne]; rfl
    rw [if_pos ht]
    rw [← e, hne] at h1
    exact h1
  · have hpos : 0 < (textP a).length := join_pos (by rw [e]; exact spans_lt ha 64 0) hne
    rw [if_neg (by intro h; rw [h] at hpos; simp at hpos)]
    unfold textP
    rw [words_join _ (by simpa using hne) (by
      intro w hw
      obtain ⟨p, _, rfl⟩ := List.mem_map.1 hw
      exact span_no p), e]
    exact h1
theorem text_inj {a b : Nat} (ha : a < 18446744073709551616) (hb : b < 18446744073709551616) : textP a = textP b ↔ a = b := by
  constructor
  · intro h
    have h1 := (parse_text ha).1
    rw [h, (parse_text hb).1] at h1
    exact (congrArg Prod.fst h1).symm
  · rintro rfl; rfl
theorem of_list {a : Nat} (ha : a < 18446744073709551616) : ofP ((listF a 64).map fun n : Nat => (n : Int)) = (a, 0) := by
  have key : ∀ (L : List Nat) (s : Nat), (∀ n ∈ L, n < 64) → ∃ r, ofA s (L.map fun n : Nat => (n : Int)) = (r, 0) ∧ ∀ i, r.testBit i = (s.testBit i || decide (i ∈ L)) := by
    intro L
    induction L with
    | nil => intro s _; exact ⟨s, rfl, fun i => by simp⟩
    | cons n L ih =>
      intro s h
      have hn := h n (by simp)
      rw [List.map_cons, ofA, if_neg (by omega)]
      obtain ⟨r, h1, h2⟩ := ih (s ||| 2 ^ n) (fun m hm => h m (by simp [hm]))
      refine ⟨r, h1, fun i => ?_⟩
      rw [h2 i, Nat.testBit_or, Nat.testBit_two_pow, Bool.or_assoc]
      congr 1
      by_cases he : n = i
      · simp [he]
      · have hne : ¬ i = n := fun e => he e.symm
        simp [he, hne]
  obtain ⟨r, h1, h2⟩ := key (listF a 64) 0 (fun n hn => by simp [listF] at hn; exact hn.1)
  unfold ofP
  rw [h1]
  congr 1
  apply Nat.eq_of_testBit_eq
  intro i
  rw [h2 i]
  simp only [Nat.zero_testBit, Bool.false_or, listF, List.mem_filter, List.mem_range, bit_test]
  by_cases hi : i < 64
  · simp [hi]
  · have := bit_high ha (show 64 ≤ i by omega)
    rw [bit_test] at this
    simp [hi, this]
theorem bit_eq (x n : Nat) : bit x n = (x.testBit n).toNat := by
  rw [← bit_test]
  rcases bit_01 x n with h | h
  · rw [inS_no.2 h, h]; rfl
  · rw [inS_iff.2 h, h]; rfl
theorem cnt_and_or (a b k : Nat) : cnt (a &&& b) k + cnt (a ||| b) k = cnt a k + cnt b k := by
  induction k with
  | zero => rfl
  | succ k ih =>
    have e : bit (a &&& b) k + bit (a ||| b) k = bit a k + bit b k := by
      simp only [bit_eq, Nat.testBit_and, Nat.testBit_or]
      cases a.testBit k <;> cases b.testBit k <;> rfl
    show cnt (a &&& b) k + bit (a &&& b) k + (cnt (a ||| b) k + bit (a ||| b) k) = cnt a k + bit a k + (cnt b k + bit b k)
    omega
theorem ins_and (a b : Nat) : insF (a &&& b) a = true := by
  unfold insF
  rw [decide_eq_true_eq]
  apply Nat.eq_of_testBit_eq
  intro i
  simp only [Nat.testBit_and]
  cases a.testBit i <;> cases b.testBit i <;> rfl
theorem text_six : textP 6 = [49, 45, 50] := by
  have h : spans 6 0 = [(1, 2)] := by decide
  unfold textP
  rw [h]
  have h1 : Lib.itoa ((1 : Nat) : Int) = [49] := by rw [itoa_nat, dec_lo _ (by omega)]; decide
  have h2 : Lib.itoa ((2 : Nat) : Int) = [50] := by rw [itoa_nat, dec_lo _ (by omega)]; decide
  simp only [List.map_cons, List.map_nil, join_one]
  rw [spanT_two (by decide)]
  show Lib.itoa ((1 : Nat) : Int) ++ 45 :: Lib.itoa ((2 : Nat) : Int) = _
  rw [h1, h2]
  rfl
end Bi
end Go.Proofs.YticmfflnenoplacDoor
