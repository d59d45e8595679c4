/- Texts laid together: AmH, BiS, BiT, BiU, BiV, BiW, BiX, BiZ, SvB, SvJ, QosE, SvK. No statement is proved here. -/
import Derived.Lib.LastIndexLaws
import Derived.Shelf.Strconv.Itoa3
import Derived.Test.YticmfflnenoplacGreatDoorQ04
namespace Go.Proofs.YticmfflnenoplacGreatDoor
open Go.RowKit Am
theorem digR_no {s : List UInt8} {most : Nat} (h : okD s = false) : digR s most = (0, false) := by simp [digR, h]
theorem digR_yes {s : List UInt8} {most : Nat} (h : okD s = true) : digR s most = (min (clip s most s.length) (most + 1), true) := by
  rw [clip_full s most]
  simp [digR, h]
theorem ok_lead {s : ByteArray} (h0 : 0 < s.size) (h1 : 1 < s.size) (hz : s[0] = 48) : okD s.data.toList = false := by
  have := dig_lead (s := s) s.size h0 h1 hz
  rcases digP_or s.data.toList s.size with ⟨_, _, a⟩ | ⟨a, _⟩
  · rw [a] at this; simp at this
  · rcases a with a | a
    · exact a
    · rw [data_len] at a; omega
theorem ok_bad {s : ByteArray} (k : Nat) (h : k < s.size) (hk : isD s[k] = false) : okD s.data.toList = false := by
  have := dig_bad (s := s) s.size k h hk
  rcases digP_or s.data.toList s.size with ⟨_, _, a⟩ | ⟨a, _⟩
  · rw [a] at this; simp at this
  · rcases a with a | a
    · exact a
    · rw [data_len] at a; omega
theorem ok_good {s : ByteArray} (h0 : 1 ≤ s.size) (hl : ¬ (1 < s.size ∧ s[0]'(by omega) = 48)) (h : ∀ j (hj : j < s.size), isD s[j] = true) : okD s.data.toList = true := by
  have := dig_good (s := s) s.size h0 (Nat.le_refl _) hl h
  rcases digP_or s.data.toList s.size with ⟨a, _, _⟩ | ⟨_, a⟩
  · exact a
  · rw [a] at this; simp at this
theorem clip_step (s : ByteArray) (most k : Nat) (h : k < s.size) : clip s.data.toList most (k + 1) = if clip s.data.toList most k ≤ most then 10 * clip s.data.toList most k + (s[k].toNat - 48) else clip s.data.toList most k := clip_next _ most k h
section
attribute [local irreducible] digR num okD isD clip
end
end Go.Proofs.YticmfflnenoplacGreatDoor
namespace Go.Proofs.YticmfflnenoplacGreatDoor
open Go.RowKit Go.Deep Pop Bi Am
namespace Bi
theorem valD_lt : ∀ (a b : List UInt8) (n m : Nat), a.length = b.length → a.all isD = true → n < m → valD a n < valD b m
  | [], [], n, m, _, _, h => h
  | [], _ :: _, _, _, h, _, _ => by simp at h
  | _ :: _, [], _, _, h, _, _ => by simp at h
  | c :: a, d :: b, n, m, hl, ha, h => by
    simp only [List.all_cons, Bool.and_eq_true] at ha
    have := isD_le ha.1
    exact valD_lt a b _ _ (by simpa using hl) ha.2 (by omega)
theorem less_val : ∀ (a b : List UInt8) (n : Nat), a.length = b.length → a.all isD = true → b.all isD = true → (Op.bytesLess a b = true ↔ valD a n < valD b n)
  | [], [], n, _, _, _ => by simp [Op.bytesLess]
  | [], _ :: _, _, h, _, _ => by simp at h
  | _ :: _, [], _, h, _, _ => by simp at h
  | c :: a, d :: b, n, hl, ha, hb => by
    simp only [List.all_cons, Bool.and_eq_true] at ha hb
    have hl' : a.length = b.length := by simpa using hl
    have h1 := isD_le ha.1
    have h2 := isD_le hb.1
    simp only [Op.bytesLess, valD]
    rcases Nat.lt_trichotomy c.toNat d.toNat with h | h | h
    · have hcd : c < d := h
      have := valD_lt a b (10 * n + (c.toNat - 48)) (10 * n + (d.toNat - 48)) hl' ha.2 (by omega)
      simp [hcd, this]
    · have hcd : c = d := UInt8.toNat_inj.1 h
      subst hcd
      have := less_val a b (10 * n + (c.toNat - 48)) hl' ha.2 hb.2
      simp [this, show ¬ c < c from fun h => Nat.lt_irrefl _ h]
    · have hcd : ¬ c < d := fun h' => by have : c.toNat < d.toNat := h'; omega
      have hne : ¬ c = d := fun e => by subst e; omega
      have := valD_lt b a (10 * n + (d.toNat - 48)) (10 * n + (c.toNat - 48)) hl'.symm hb.2 (by omega)
      have e1 : decide (c < d) = false := decide_eq_false hcd
      have e2 : (c == d) = false := by simp [hne]
      rw [e1, e2, Bool.false_and, Bool.or_false]
      exact ⟨fun h => (Bool.false_ne_true h).elim, fun h => absurd h (by omega)⟩
theorem less_num {a b : List UInt8} (hl : a.length = b.length) (ha : okD a = true) (hb : okD b = true) : Op.bytesLess a b = decide (num a < num b) := by
  rw [Bool.eq_iff_iff, decide_eq_true_eq]
  exact less_val a b 0 hl (okD_all ha) (okD_all hb)
theorem num_below {a : List UInt8} (ha : a.all isD = true) : num a < 10 ^ a.length := by
  have key : ∀ (l : List UInt8) (n : Nat), l.all isD = true → valD l n < (n + 1) * 10 ^ l.length := by
    intro l
    induction l with
    | nil => intro n _; simp [valD]
    | cons c l ih =>
      intro n h
      simp only [List.all_cons, Bool.and_eq_true] at h
      have h1 := isD_le h.1
      have h2 := ih (10 * n + (c.toNat - 48)) h.2
      simp only [valD, List.length_cons]
      refine Nat.lt_of_lt_of_le h2 ?_
      rw [Nat.pow_succ, Nat.mul_comm (10 ^ l.length) 10, ← Nat.mul_assoc]
      exact Nat.mul_le_mul_right _ (by omega)
  have := key a 0 ha
  simpa [num] using this
theorem num_above {a : List UInt8} (ha : okD a = true) (h : 1 < a.length) : 10 ^ (a.length - 1) ≤ num a := by
  have key : ∀ (l : List UInt8) (n : Nat), n * 10 ^ l.length ≤ valD l n := by
    intro l
    induction l with
    | nil => intro n; simp [valD]
    | cons c l ih =>
      intro n
      have h2 := ih (10 * n + (c.toNat - 48))
      simp only [valD, List.length_cons]
      refine Nat.le_trans ?_ h2
      rw [Nat.pow_succ, Nat.mul_comm (10 ^ l.length) 10, ← Nat.mul_assoc]
      exact Nat.mul_le_mul_right _ (by omega)
  obtain ⟨c, r, rfl, hc, hz⟩ := okD_cons ha
  have hr : r ≠ [] := by intro e; subst e; simp at h
  have hc2 := isD_le hc
  have hc3 : c.toNat ≠ 48 := fun e => hz hr (UInt8.toNat_inj.1 e)
  have := key r (10 * 0 + (c.toNat - 48))
  have e : num (c :: r) = valD r (10 * 0 + (c.toNat - 48)) := rfl
  rw [e]
  simp only [List.length_cons, Nat.add_sub_cancel]
  refine Nat.le_trans ?_ this
  have : 1 * 10 ^ r.length ≤ (10 * 0 + (c.toNat - 48)) * 10 ^ r.length := Nat.mul_le_mul_right _ (by omega)
  omega
theorem num_longer {a b : List UInt8} (ha : okD a = true) (hb : okD b = true) (h : a.length < b.length) : num a < num b := by
  have h0 : 0 < a.length := by obtain ⟨c, r, rfl, _⟩ := okD_cons ha; simp
  have h1 := num_below (okD_all ha)
  have h2 := num_above hb (by omega)
  have : 10 ^ a.length ≤ 10 ^ (b.length - 1) := Nat.pow_le_pow_right (by omega) (by omega)
  omega
def big : List UInt8 := [57, 50, 50, 51, 51, 55, 50, 48, 51, 54, 56, 53, 52, 55, 55, 53, 56, 48, 55]
theorem big_ok : okD big = true ∧ num big = 9223372036854775807 ∧ big.length = 19 := by decide
/-- Is a number's text within an int? -/
def intB (a : List UInt8) : Bool := decide (a.length < 19) || (decide (a.length = 19) && (Op.bytesLess a big || a == big))
theorem intB_num {a : List UInt8} (ha : okD a = true) : intB a = numB a := by
  obtain ⟨b1, b2, b3⟩ := big_ok
  rw [Bool.eq_iff_iff]
  simp only [intB, numB, ha, Bool.or_eq_true, Bool.and_eq_true, decide_eq_true_eq, true_and]
  rcases Nat.lt_trichotomy a.length 19 with h | h | h
  · have := num_longer ha b1 (by omega)
    simp [h]
    omega
  · have := less_num (by omega : a.length = big.length) ha b1
    rw [this, b2]
    simp only [h, Nat.lt_irrefl, false_or, true_and, decide_eq_true_eq, beq_iff_eq]
    constructor
    · rintro (h1 | rfl)
      · omega
      · omega
    · intro h1
      by_cases h2 : num a < 9223372036854775807
      · exact .inl h2
      · refine .inr ?_
        rw [← dec_num _ a rfl ha, ← dec_num _ big rfl b1]
        congr 1
        omega
  · have := num_longer b1 ha (by omega)
    constructor
    · rintro (h1 | h1)
      · omega
      · omega
    · intro h1; omega
/-- Does the second number come ahead of the first one? -/
def aheadB (a b : List UInt8) : Bool := decide (b.length < a.length) || (decide (a.length = b.length) && Op.bytesLess b a)
theorem ahead_num {a b : List UInt8} (ha : okD a = true) (hb : okD b = true) : aheadB a b = decide (num b < num a) := by
  rw [Bool.eq_iff_iff]
  simp only [aheadB, Bool.or_eq_true, Bool.and_eq_true, decide_eq_true_eq]
  rcases Nat.lt_trichotomy a.length b.length with h | h | h
  · have := num_longer ha hb h
    omega
  · rw [less_num h.symm hb ha]
    simp [h]
  · have := num_longer hb ha h
    omega
end Bi
end Go.Proofs.YticmfflnenoplacGreatDoor
namespace Go.Proofs.YticmfflnenoplacGreatDoor
open Go.RowKit Go.Deep Pop Bi Am
namespace Bi
theorem index_atc (c : UInt8) (p r : List UInt8) (h : c ∉ p) : Lib.indexByte (p ++ c :: r) c = p.length := by
  induction p with
  | nil => simp [Lib.indexByte]
  | cons d p ih =>
    simp only [List.mem_cons, not_or] at h
    have hc : (d == c) = false := by simp; exact fun e => h.1 e.symm
    rw [List.cons_append, Lib.indexByte, hc, ih h.2]
    simp
theorem index_none (c : UInt8) (p : List UInt8) (h : c ∉ p) : Lib.indexByte p c = -1 := by
  induction p with
  | nil => simp [Lib.indexByte]
  | cons d p ih =>
    simp only [List.mem_cons, not_or] at h
    have hc : (d == c) = false := by simp; exact fun e => h.1 e.symm
    rw [Lib.indexByte, hc, ih h.2]
    simp
/-- Where a dash stands first, at j or behind it. -/
def DashI (l : List UInt8) (j : Nat) (v : Int) : Prop :=
  (v = -1 ∧ ∀ i (h : i < l.length), j ≤ i → l[i] ≠ 45) ∨ ∃ d, ∃ hd : d < l.length, v = d ∧ l[d] = 45 ∧ ∀ i (h : i < l.length), j ≤ i → i < d → l[i] ≠ 45
theorem dash_start (l : List UInt8) : DashI l l.length (-1) := .inl ⟨rfl, fun i h hj => absurd h (by omega)⟩
theorem dash_hit {l : List UInt8} {j : Nat} (hj : j < l.length) (hc : l[j] = 45) : DashI l j j := .inr ⟨j, hj, rfl, hc, fun i _ h1 h2 => absurd h1 (by omega)⟩
theorem dash_go {l : List UInt8} {j : Nat} {v : Int} (h : DashI l (j + 1) v) (hj : j < l.length) (hc : l[j] ≠ 45) : DashI l j v := by
  rcases h with ⟨hv, h⟩ | ⟨d, hd, hv, h1, h⟩
  · refine .inl ⟨hv, fun i hi hji => ?_⟩
    rcases Nat.lt_or_eq_of_le hji with h' | rfl
    · exact h i hi h'
    · exact hc
  · refine .inr ⟨d, hd, hv, h1, fun i hi hji hid => ?_⟩
    rcases Nat.lt_or_eq_of_le hji with h' | rfl
    · exact h i hi h' hid
    · exact hc
theorem dash_end {l : List UInt8} {v : Int} (h : DashI l 0 v) : (v = -1 ∧ wordA l = l ∧ wordB l = l) ∨ ∃ d, d < l.length ∧ v = (d : Int) ∧ wordA l = l.take d ∧ wordB l = l.drop (d + 1) := by
  rcases h with ⟨hv, h⟩ | ⟨d, hd, hv, h1, h⟩
  · have hn : (45 : UInt8) ∉ l := fun hm => by
      obtain ⟨i, hi, he⟩ := List.mem_iff_getElem.1 hm
      exact h i hi (Nat.zero_le _) he
    have hc : Lib.cut l [45] = (l, [], false) := by
      unfold Lib.cut
      rw [Lib.index_one, index_none _ _ hn]
      rfl
    exact .inl ⟨hv, by rw [wordA, hc], by rw [wordB, hc]; rfl⟩
  · have hn : (45 : UInt8) ∉ l.take d := fun hm => by
      obtain ⟨i, hi, he⟩ := List.mem_iff_getElem.1 hm
      rw [List.length_take] at hi
      rw [List.getElem_take] at he
      exact h i (by omega) (Nat.zero_le _) (by omega) he
    have hl : l = l.take d ++ 45 :: l.drop (d + 1) := by
      conv => lhs; rw [← List.take_append_drop d l, List.drop_eq_getElem_cons hd, h1]
    have hx : Lib.index l [45] = (d : Int) := by
      rw [Lib.index_one]
      conv => lhs; rw [hl]
      rw [index_atc _ _ _ hn, List.length_take]
      congr 1
      omega
    have hc : Lib.cut l [45] = (l.take d, l.drop (d + 1), true) := by
      unfold Lib.cut
      rw [hx, if_pos (by omega)]
      rfl
    exact .inr ⟨d, hd, hv, by rw [wordA, hc], by rw [wordB, hc]; rfl⟩
theorem numB_is (a : List UInt8) : numB a = (okD a && intB a) := by
  cases h : okD a
  · simp [numB, h]
  · rw [intB_num h]; rfl
theorem digR_is (a : List UInt8) : digR a 1000 = (if okD a then (min (num a) 1001, true) else (0, false)) := rfl
theorem wordsP_ne (s : List UInt8) : wordsP s ≠ [] := by
  have key : ∀ (l p : List UInt8), splitP p l ≠ [] := by
    intro l
    induction l with
    | nil => intro p; simp [splitP]
    | cons c l ih => intro p; simp only [splitP]; split; · simp
                     · exact ih _
  rw [wordsP_is]
  exact key _ _
end Bi
end Go.Proofs.YticmfflnenoplacGreatDoor
namespace Go.Proofs.YticmfflnenoplacGreatDoor
open Go.RowKit Go.Deep Pop Bi Am
theorem digR_at (a : List UInt8) : (digR a 1000).1 ≤ 1001 ∧ okD a = (digR a 1000).2 ∧ (okD a = true → (digR a 1000).1 = min (num a) 1001) := by
  rw [digR_is]
  cases okD a
  · exact ⟨Nat.zero_le _, rfl, fun h => by cases h⟩
  · exact ⟨Nat.min_le_right _ _, rfl, fun _ => rfl⟩
theorem gtB_num {a b : List UInt8} (hl : a.length = b.length) (ha : okD a = true) (hb : okD b = true) : (!Op.bytesLess a b && !a == b) = decide (num b < num a) := by
  rw [less_num hl ha hb]
  rcases Nat.lt_trichotomy (num a) (num b) with h | h | h
  · rw [decide_eq_true h, decide_eq_false (by omega)]; rfl
  · have he : a = b := by rw [← dec_num _ a rfl ha, ← dec_num _ b rfl hb, h]
    subst he
    simp
  · have he : ¬ a = b := fun e => by subst e; omega
    have he2 : (a == b) = false := by simp [he]
    rw [decide_eq_false (by omega), decide_eq_true h, he2]; rfl
theorem and4 : ∀ o1 o2 i1 i2 : Bool, (o1 && o2 && (i1 && i2)) = false → (o1 && i1) = false ∨ (o2 && i2) = false := by decide
def RetUIB (r : Nat × Int) (w : World) (e : Ending) (w' : World) : Prop := e = .returned (.tuple #[.int .u64 r.1, .int .i64 r.2]) ∧ Below w.heap.size w w'
theorem RetUIB.of {r : Nat × Int} {a : Nat} {f : Int} {w w' : World} (h : r = (a, f)) (hb : Below w.heap.size w w') : RetUIB r w (.returned (.tuple #[.int .u64 a, .int .i64 f])) w' := by
  subst h; exact ⟨rfl, hb⟩
theorem u8_45 (c : UInt8) : (c.toNat : Int) = 45 ↔ c = 45 := by
  rw [← UInt8.toNat_inj]
  show _ ↔ c.toNat = 45
  omega
section
attribute [local irreducible] numB num goW orR wordA wordB parseP wordsP Lib.cut DashI okD intB strsV digR Op.bytesLess
end
end Go.Proofs.YticmfflnenoplacGreatDoor
namespace Go.Proofs.YticmfflnenoplacGreatDoor
open Go.RowKit Go.Deep Pop Bi Am
namespace Bi
theorem inside_bits {a b : Nat} (ha : a < 18446744073709551616) (hb : b < 18446744073709551616) : (a &&& (18446744073709551615 - b) = 0) ↔ (a &&& b = a) := by
  have hn : ∀ i, (18446744073709551615 - b).testBit i = (decide (i < 64) && !b.testBit i) := fun i => by
    rw [show 18446744073709551615 - b = 2 ^ 64 - (b + 1) by omega]
    exact Nat.testBit_two_pow_sub_succ (by simpa using hb) i
  have hah : ∀ i, 64 ≤ i → a.testBit i = false := fun i hi => Nat.testBit_lt_two_pow (Nat.lt_of_lt_of_le ha (by
    have : 2 ^ 64 ≤ 2 ^ i := Nat.pow_le_pow_right (by omega) hi
    simpa using this))
  constructor
  · intro h
    apply Nat.eq_of_testBit_eq
    intro i
    have h2 := congrArg (fun x => x.testBit i) h
    simp only [Nat.testBit_and, hn, Nat.zero_testBit] at h2
    rw [Nat.testBit_and]
    cases h3 : a.testBit i
    · rfl
    · rw [h3] at h2
      by_cases h4 : i < 64
      · simpa [h4] using h2
      · rw [hah i (by omega)] at h3; cases h3
  · intro h
    apply Nat.eq_of_testBit_eq
    intro i
    have h2 := congrArg (fun x => x.testBit i) h
    simp only [Nat.testBit_and] at h2
    rw [Nat.testBit_and, hn, Nat.zero_testBit]
    cases h3 : a.testBit i
    · rfl
    · rw [h3] at h2
      have h4 : b.testBit i = true := by simpa using h2
      rw [h4]
      simp
def insF (a b : Nat) : Bool := decide (a &&& b = a)
end Bi
set_option maxRecDepth 100000 in
set_option maxHeartbeats 2000000 in
theorem Inside_any (a b : Nat) (ha : a < 18446744073709551616) (hb : b < 18446744073709551616) (w : World) : Calls Tryz.prog 81 #[.int .u64 a, .int .u64 b] w (RetB (insF a b) w) := by
  have hq := u64_andNot_nat a b ha hb
  have HF : Hid (insF a b = (((a &&& (18446744073709551615 - b) : Nat) : Int) == 0)) := Lib.hid (by
    rw [Bool.eq_iff_iff, beq_iff_eq, insF, decide_eq_true_eq, ← inside_bits ha hb]
    omega)
  generalize (a &&& (18446744073709551615 - b) : Nat) = q at *
  go_enter Tryz.func81, Tryz.ntmps81
  go_wp2_with fail
  go_ret
  exact ⟨by rw [HF.out]; rfl, rfl⟩
end Go.Proofs.YticmfflnenoplacGreatDoor
namespace Go.Proofs.YticmfflnenoplacGreatDoor
open Go.RowKit Go.Deep Pop Bi Am
namespace Bi
def ex : List UInt8 := [48, 45, 50, 44, 55]
theorem ex_words : wordsP ex = [[48, 45, 50], [55]] := by rw [wordsP_is]; decide
theorem ex_parse : parseP ex = (135, 0) := by
  unfold parseP
  rw [if_neg (by decide), if_neg (by decide), ex_words]
  decide
theorem dec1 (n : Nat) (h : n < 10) : Lib.decDigits n = [UInt8.ofNat (48 + n)] := by rw [Lib.decDigits, dif_pos h]
theorem ex_text : textP 135 = ex := by
  have hs : spans 135 0 = [(0, 2), (7, 7)] := by decide
  unfold textP
  rw [hs]
  simp only [List.map_cons, List.map_nil, spanT, Am.itoa_nat]
  rw [dec1 0 (by omega), dec1 2 (by omega), dec1 7 (by omega)]
  decide
end Bi
section
attribute [local irreducible] parseP textP
end
end Go.Proofs.YticmfflnenoplacGreatDoor
namespace Go.Proofs.YticmfflnenoplacGreatDoor
open Go.RowKit Go.Deep Pop Bi Am
theorem ofP_lt (l : List Int) : (ofP l).1 < 18446744073709551616 ∧ ((ofP l).2 = 0 ∨ (ofP l).2 = 1) := by
  have key : ∀ (l : List Int) (a : Nat), a < 18446744073709551616 → (ofA a l).1 < 18446744073709551616 ∧ ((ofA a l).2 = 0 ∨ (ofA a l).2 = 1) := by
    intro l
    induction l with
    | nil => intro a ha; exact ⟨ha, .inl rfl⟩
    | cons x l ih =>
      intro a ha
      rw [ofA]
      split
      · exact ⟨by decide, .inr rfl⟩
      · exact ih _ (or_lt ha (pow_lt (by omega)))
  exact key l 0 (by omega)
theorem goW_sure (L : List (List UInt8)) : ∀ a, a < 18446744073709551616 → (goW a L).1 < 18446744073709551616 ∧ 0 ≤ (goW a L).2 := by
  induction L with
  | nil => intro a ha; exact ⟨ha, by simp [goW]⟩
  | cons x L ih =>
    intro a ha
    rw [goW]
    split
    · exact ⟨by decide, by decide⟩
    · rename_i h1
      split
      · exact ⟨by decide, by decide⟩
      · have h3 : ¬ num (wordB x) < num (wordA x) := fun h => h1 (by simp [h])
        exact ih _ (orR_lt ha (by omega))
theorem parseP_sure (s : List UInt8) : (parseP s).1 < 18446744073709551616 ∧ 0 ≤ (parseP s).2 := by
  unfold parseP
  split
  · exact ⟨by decide, by decide⟩
  · split
    · exact ⟨by decide, by decide⟩
    · exact goW_sure _ 0 (by omega)
end Go.Proofs.YticmfflnenoplacGreatDoor
namespace Go.Proofs.YticmfflnenoplacGreatDoor
open Am Pop
namespace Bi
theorem splitP_word : ∀ (w p l : List UInt8), (44 : UInt8) ∉ w → splitP p (w ++ l) = splitP (p ++ w) l
  | [], p, l, _ => by simp
  | c :: w, p, l, h => by
    simp only [List.mem_cons, not_or] at h
    rw [List.cons_append, splitP, if_neg (fun e => h.1 e.symm), splitP_word w _ l h.2]
    simp
theorem join_cons2 (a b : List UInt8) (l : List (List UInt8)) : Lib.join (a :: b :: l) [44] = a ++ 44 :: Lib.join (b :: l) [44] := by simp [Lib.join, List.intercalate]
theorem join_one (a : List UInt8) : Lib.join [a] [44] = a := by simp [Lib.join, List.intercalate]
theorem words_join (l : List (List UInt8)) (hne : l ≠ []) (h : ∀ w ∈ l, (44 : UInt8) ∉ w) : wordsP (Lib.join l [44]) = l := by
  rw [wordsP_is]
  induction l with
  | nil => exact absurd rfl hne
  | cons a l ih =>
    cases l with
    | nil =>
      rw [join_one]
      have := splitP_word a [] [] (h a (by simp))
      rw [List.append_nil] at this
      rw [this]
      rfl
    | cons b l =>
      rw [join_cons2, splitP_word a [] _ (h a (by simp)), splitP, if_pos rfl, ih (by simp) (fun w hw => h w (by simp [hw]))]
      simp
theorem cut_yes {p : List UInt8} (r : List UInt8) (h : (45 : UInt8) ∉ p) : Lib.cut (p ++ 45 :: r) [45] = (p, r, true) := by
  unfold Lib.cut
  rw [Lib.index_one, index_atc _ _ _ h, if_pos (by omega)]
  simp
theorem cut_not {p : List UInt8} (h : (45 : UInt8) ∉ p) : Lib.cut p [45] = (p, [], false) := by
  unfold Lib.cut
  rw [Lib.index_one, index_none _ _ h]
  rfl
theorem itoa_no (n : Nat) (c : UInt8) (hc : isD c = false) : c ∉ Lib.itoa (n : Int) := by
  rw [itoa_nat]
  exact not_mem_dig (dec_facts n).1 c hc
theorem span_no (p : Nat × Nat) : (44 : UInt8) ∉ spanT p := by
  unfold spanT
  rw [List.mem_append]
  rintro (h | h)
  · exact itoa_no _ _ (by decide) h
  · split at h
    · rcases List.mem_cons.1 h with h | h
      · exact absurd h (by decide)
      · exact itoa_no _ _ (by decide) h
    · cases h
theorem word_span {p : Nat × Nat} (h : p.1 ≤ p.2) : wordA (spanT p) = Lib.itoa (p.1 : Int) ∧ wordB (spanT p) = Lib.itoa (p.2 : Int) := by
  rcases Nat.lt_or_ge p.1 p.2 with hlt | hge
  · rw [spanT_two hlt]
    unfold wordA wordB
    rw [cut_yes _ (itoa_no _ _ (by decide))]
    exact ⟨rfl, rfl⟩
  · have e : p.1 = p.2 := by omega
    rw [spanT_one hge]
    unfold wordA wordB
    rw [cut_not (itoa_no _ _ (by decide)), e]
    exact ⟨rfl, rfl⟩
theorem num_itoa (n : Nat) : num (Lib.itoa (n : Int)) = n := by rw [itoa_nat]; exact (dec_facts n).2.1
theorem numB_itoa {n : Nat} (h : n < 64) : numB (Lib.itoa (n : Int)) = true := by
  unfold numB
  rw [num_itoa, itoa_nat, dec_ok]
  simp
  omega
theorem orR_bit (s a k i : Nat) : (orR s a k).testBit i = (s.testBit i || (decide (a ≤ i) && decide (i < a + k))) := by
  induction k with
  | zero =>
    rw [orR]
    by_cases h : a ≤ i
    · simp [show ¬ i < a by omega]
    · simp [h]
  | succ k ih =>
    rw [orR, Nat.testBit_or, ih, Nat.testBit_two_pow, Bool.or_assoc]
    congr 1
    rw [Bool.eq_iff_iff]
    simp
    omega
theorem end_in {x : Nat} (hx : x < 18446744073709551616) : ∀ (d n : Nat), 64 ≤ n + d → inS x n = true → (∀ i, n ≤ i → i ≤ endR x n → inS x i = true) ∧ inS x (endR x n + 1) = false := by
  intro d
  induction d with
  | zero => intro n hn h; rw [bit_high hx (by omega)] at h; cases h
  | succ d ih =>
    intro n hn h
    cases h1 : inS x (n + 1)
    · rw [endR_no h1]
      exact ⟨fun i h2 h3 => by obtain rfl : i = n := by omega
                               exact h, h1⟩
    · rw [endR_yes hx h1]
      obtain ⟨h2, h3⟩ := ih (n + 1) (by omega) h1
      refine ⟨fun i h4 h5 => ?_, h3⟩
      rcases Nat.eq_or_lt_of_le h4 with rfl | h6
      · exact h
      · exact h2 i h6 h5
theorem spans_go {x : Nat} (hx : x < 18446744073709551616) : ∀ (f n out : Nat), 64 ≤ n + f → ∃ r, goW out ((spansF x f n).map spanT) = (r, 0) ∧ ∀ i, r.testBit i = (out.testBit i || (decide (n ≤ i) && x.testBit i)) := by
  have hend : ∀ (n out : Nat), 64 ≤ n → ∃ r, goW out [] = (r, 0) ∧ ∀ i, r.testBit i = (out.testBit i || (decide (n ≤ i) && x.testBit i)) := by
    intro n out hn
    refine ⟨out, rfl, fun i => ?_⟩
    by_cases h : n ≤ i
    · rw [← bit_test x i, bit_high hx (by omega)]; simp
    · simp [h]
  intro f
  induction f with
  | zero => intro n out hn; exact hend n out (by omega)
  | succ f ih =>
    intro n out hn
    rw [spansF]
    split
    · exact hend n out (by assumption)
    · rename_i h64
      have hge := endR_ge x n
      have hlt := endR_lt hx (show n < 64 by omega)
      cases h : inS x n
      · simp only [Bool.false_eq_true, if_false]
        obtain ⟨r, h1, h2⟩ := ih (n + 1) out (by omega)
        refine ⟨r, h1, fun i => ?_⟩
        rw [h2 i]
        congr 1
        by_cases hi : i = n
        · subst hi
          rw [← bit_test x i, h]; simp
        · congr 1
          rw [Bool.eq_iff_iff]
          simp
          omega
      · simp only [if_true]
        obtain ⟨hin, _⟩ := end_in hx 64 n (by omega) h
        rw [List.map_cons, goW]
        obtain ⟨hA, hB⟩ := word_span (p := (n, endR x n)) hge
        rw [hA, hB, numB_itoa (by omega), numB_itoa hlt, num_itoa, num_itoa, if_neg (by simp; omega), if_neg (by omega)]
        obtain ⟨r, h1, h2⟩ := ih (endR x n + 1) (orR out n (endR x n + 1 - n)) (by omega)
        refine ⟨r, h1, fun i => ?_⟩
        rw [h2 i, orR_bit, Bool.or_assoc]
        congr 1
        by_cases h3 : n ≤ i ∧ i ≤ endR x n
        · rw [← bit_test x i, hin i h3.1 h3.2]
          simp [h3.1]
          omega
        · rw [Bool.eq_iff_iff]
          simp
          constructor
          · rintro (h4 | h4)
            · omega
            · exact ⟨by omega, h4.2⟩
          · rintro ⟨h4, h5⟩
            exact .inr ⟨by omega, h5⟩
theorem spans_few {x : Nat} (hx : x < 18446744073709551616) : ∀ (f n : Nat), 2 * (spansF x f n).length ≤ 65 - n ∧ (inS x n = false → 2 * (spansF x f n).length ≤ 64 - n) := by
  intro f
  induction f with
  | zero => intro n; simp [spansF]
  | succ f ih =>
    intro n
    rw [spansF]
    split
    · simp
    · rename_i h64
      have hge := endR_ge x n
      have hlt := endR_lt hx (show n < 64 by omega)
      cases h : inS x n
      · simp only [Bool.false_eq_true, if_false]
        have := (ih (n + 1)).1
        exact ⟨by omega, fun _ => by omega⟩
      · simp only [if_true, List.length_cons]
        have := (ih (endR x n + 1)).2 (end_in hx 64 n (by omega) h).2
        exact ⟨by omega, fun h => by cases h⟩
theorem spans_lt {x : Nat} (hx : x < 18446744073709551616) : ∀ (f n : Nat), ∀ p ∈ spansF x f n, p.1 < 64 ∧ p.2 < 64 := by
  intro f
  induction f with
  | zero => intro n p h; cases h
  | succ f ih =>
    intro n p hp
    rw [spansF] at hp
    split at hp
    · cases hp
    · split at hp
      · rcases List.mem_cons.1 hp with rfl | hp
        · exact ⟨by show n < 64; omega, endR_lt hx (by omega)⟩
        · exact ih _ _ hp
      · exact ih _ _ hp
theorem spansT_len {ps : List (Nat × Nat)} (h : ∀ p ∈ ps, p.1 < 64 ∧ p.2 < 64) : (Lib.join (ps.map spanT) [44]).length ≤ 6 * ps.length := join_len h
/-- What is written is read. -/
theorem parse_text {a : Nat} (ha : a < 18446744073709551616) : parseP (textP a) = (a, 0) ∧ (textP a).length ≤ 200 := by
  obtain ⟨r, h1, h2⟩ := spans_go ha 64 0 0 (by omega)
  have hr : r = a := by
    apply Nat.eq_of_testBit_eq
    intro i
    rw [h2 i]
    simp
  rw [hr] at h1
  have hl := spansT_len (spans_lt ha 64 0)
  have hf := (spans_few ha 64 0).1
  have e : spans a 0 = spansF a 64 0 := rfl
  have hlen : (textP a).length ≤ 200 := by
    unfold textP
    rw [e]
    omega
  refine ⟨?_, hlen⟩
  unfold parseP
  rw [if_neg (by omega)]
  by_cases hne : spans a 0 = []
  · have ht : textP a = [] := by unfold textP; rw [hne]; rfl
    rw [if_pos ht]
    rw [← e, hne] at h1
    exact h1
  · have hpos : 0 < (textP a).length := join_pos (by rw [e]; exact spans_lt ha 64 0) hne
    rw [if_neg (by intro h; rw [h] at hpos; simp at hpos)]
    unfold textP
    rw [words_join _ (by simpa using hne) (by
      intro w hw
      obtain ⟨p, _, rfl⟩ := List.mem_map.1 hw
      exact span_no p), e]
    exact h1
theorem text_inj {a b : Nat} (ha : a < 18446744073709551616) (hb : b < 18446744073709551616) : textP a = textP b ↔ a = b := by
  constructor
  · intro h
    have h1 := (parse_text ha).1
    rw [h, (parse_text hb).1] at h1
    exact (congrArg Prod.fst h1).symm
  · rintro rfl; rfl
theorem of_list {a : Nat} (ha : a < 18446744073709551616) : ofP ((listF a 64).map fun n : Nat => (n : Int)) = (a, 0) := by
  have key : ∀ (L : List Nat) (s : Nat), (∀ n ∈ L, n < 64) → ∃ r, ofA s (L.map fun n : Nat => (n : Int)) = (r, 0) ∧ ∀ i, r.testBit i = (s.testBit i || decide (i ∈ L)) := by
    intro L
    induction L with
    | nil => intro s _; exact ⟨s, rfl, fun i => by simp⟩
    | cons n L ih =>
      intro s h
      have hn := h n (by simp)
      rw [List.map_cons, ofA, if_neg (by omega)]
      obtain ⟨r, h1, h2⟩ := ih (s ||| 2 ^ n) (fun m hm => h m (by simp [hm]))
      refine ⟨r, h1, fun i => ?_⟩
      rw [h2 i, Nat.testBit_or, Nat.testBit_two_pow, Bool.or_assoc]
      congr 1
      by_cases he : n = i
      · simp [he]
      · have hne : ¬ i = n := fun e => he e.symm
        simp [he, hne]
  obtain ⟨r, h1, h2⟩ := key (listF a 64) 0 (fun n hn => by simp [listF] at hn; exact hn.1)
  unfold ofP
  rw [h1]
  congr 1
  apply Nat.eq_of_testBit_eq
  intro i
  rw [h2 i]
  simp only [Nat.zero_testBit, Bool.false_or, listF, List.mem_filter, List.mem_range, bit_test]
  by_cases hi : i < 64
  · simp [hi]
  · have := bit_high ha (show 64 ≤ i by omega)
    rw [bit_test] at this
    simp [hi, this]
theorem bit_eq (x n : Nat) : bit x n = (x.testBit n).toNat := by
  rw [← bit_test]
  rcases bit_01 x n with h | h
  · rw [inS_no.2 h, h]; rfl
  · rw [inS_iff.2 h, h]; rfl
theorem cnt_and_or (a b k : Nat) : cnt (a &&& b) k + cnt (a ||| b) k = cnt a k + cnt b k := by
  induction k with
  | zero => rfl
  | succ k ih =>
    have e : bit (a &&& b) k + bit (a ||| b) k = bit a k + bit b k := by
      simp only [bit_eq, Nat.testBit_and, Nat.testBit_or]
      cases a.testBit k <;> cases b.testBit k <;> rfl
    show cnt (a &&& b) k + bit (a &&& b) k + (cnt (a ||| b) k + bit (a ||| b) k) = cnt a k + bit a k + (cnt b k + bit b k)
    omega
theorem ins_and (a b : Nat) : insF (a &&& b) a = true := by
  unfold insF
  rw [decide_eq_true_eq]
  apply Nat.eq_of_testBit_eq
  intro i
  simp only [Nat.testBit_and]
  cases a.testBit i <;> cases b.testBit i <;> rfl
theorem text_six : textP 6 = [49, 45, 50] := by
  have h : spans 6 0 = [(1, 2)] := by decide
  unfold textP
  rw [h]
  have h1 : Lib.itoa ((1 : Nat) : Int) = [49] := by rw [itoa_nat, dec_lo _ (by omega)]; decide
  have h2 : Lib.itoa ((2 : Nat) : Int) = [50] := by rw [itoa_nat, dec_lo _ (by omega)]; decide
  simp only [List.map_cons, List.map_nil, join_one]
  rw [spanT_two (by decide)]
  show Lib.itoa ((1 : Nat) : Int) ++ 45 :: Lib.itoa ((2 : Nat) : Int) = _
  rw [h1, h2]
  rfl
end Bi
end Go.Proofs.YticmfflnenoplacGreatDoor
namespace Go.Proofs.YticmfflnenoplacGreatDoor
namespace Sv
open Da Qo Bi Am Pop
/-! ### Words at any byte -/
def splitC (d : UInt8) (p : List UInt8) : List UInt8 → List (List UInt8)
  | [] => [p]
  | c :: l => if c = d then p :: splitC d [] l else splitC d (p ++ [c]) l
theorem splitC_is (d : UInt8) : ∀ (l p : List UInt8), d ∉ p → Lib.split (p ++ l) [d] = splitC d p l
  | [], p, h => by
    rw [List.append_nil]
    unfold Lib.split
    rw [Lib.count_one, List.count_eq_zero_of_not_mem h]
    rfl
  | c :: r, p, h => by
    by_cases hc : c = d
    · subst hc
      simp only [splitC, if_true]
      rw [← splitC_is c r [] (by simp), List.nil_append]
      unfold Lib.split
      rw [Lib.count_one, Lib.count_one, List.count_append, List.count_eq_zero_of_not_mem h, List.count_cons_self, Nat.zero_add, Lib.splitK, Lib.index_one, index_atc c p r h]
      rw [if_neg (by simp)]
      simp
    · simp only [splitC, if_neg hc]
      rw [← splitC_is d r (p ++ [c]) (by simp [h]; exact fun e => hc e.symm), List.append_assoc]
      rfl
theorem splitC_word (d : UInt8) : ∀ (w p l : List UInt8), d ∉ w → splitC d p (w ++ l) = splitC d (p ++ w) l
  | [], p, l, _ => by simp
  | c :: w, p, l, h => by
    simp only [List.mem_cons, not_or] at h
    rw [List.cons_append, splitC, if_neg (fun e => h.1 e.symm), splitC_word d w _ l h.2]
    simp
theorem joinC_cons2 (d : UInt8) (a b : List UInt8) (l : List (List UInt8)) : Lib.join (a :: b :: l) [d] = a ++ d :: Lib.join (b :: l) [d] := by simp [Lib.join, List.intercalate]
theorem joinC_one (d : UInt8) (a : List UInt8) : Lib.join [a] [d] = a := by simp [Lib.join, List.intercalate]
theorem split_join (d : UInt8) (l : List (List UInt8)) (hne : l ≠ []) (h : ∀ w ∈ l, d ∉ w) : Lib.split (Lib.join l [d]) [d] = l := by
  have := splitC_is d (Lib.join l [d]) [] (by simp)
  rw [List.nil_append] at this
  rw [this]
  clear this
  induction l with
  | nil => exact absurd rfl hne
  | cons a l ih =>
    cases l with
    | nil =>
      rw [joinC_one]
      have := splitC_word d a [] [] (h a (by simp))
      rw [List.append_nil] at this
      rw [this]
      rfl
    | cons b l =>
      rw [joinC_cons2, splitC_word d a [] _ (h a (by simp)), splitC, if_pos rfl, ih (by simp) (fun w hw => h w (by simp [hw]))]
      simp
theorem cutC_yes {d : UInt8} {p : List UInt8} (r : List UInt8) (h : d ∉ p) : Lib.cut (p ++ d :: r) [d] = (p, r, true) := by
  unfold Lib.cut
  rw [Lib.index_one, index_atc _ _ _ h, if_pos (by omega)]
  simp
theorem join_mem {d c : UInt8} {l : List (List UInt8)} (h : c ∈ Lib.join l [d]) : c = d ∨ ∃ w ∈ l, c ∈ w := by
  induction l with
  | nil => simp [Lib.join, List.intercalate] at h
  | cons a l ih =>
    cases l with
    | nil => rw [joinC_one] at h; exact .inr ⟨a, by simp, h⟩
    | cons b l =>
      rw [joinC_cons2, List.mem_append, List.mem_cons] at h
      rcases h with h | h | h
      · exact .inr ⟨a, by simp, h⟩
      · exact .inl h
      · rcases ih h with h | ⟨w, hw, hc⟩
        · exact .inl h
        · exact .inr ⟨w, by simp [hw], hc⟩
/-! ### Numbers, names -/
theorem itoa_dig {n : Int} (h : 0 ≤ n) {c : UInt8} (hc : isD c = false) : c ∉ Lib.itoa n := by
  obtain ⟨m, rfl⟩ : ∃ m : Nat, n = m := ⟨n.toNat, by omega⟩
  exact itoa_no m c hc
theorem itoa_ne {n : Int} (h : 0 ≤ n) : Lib.itoa n ≠ [] := by
  obtain ⟨m, rfl⟩ : ∃ m : Nat, n = m := ⟨n.toNat, by omega⟩
  rw [itoa_nat]
  exact (dec_facts m).2.2.1
theorem atoi_itoa {n : Int} (h : 0 ≤ n) (h1 : n ≤ 9223372036854775807) : Lib.atoiAll (Lib.itoa n) = .ok n := by
  obtain ⟨m, rfl⟩ : ∃ m : Nat, n = m := ⟨n.toNat, by omega⟩
  have : numB (Lib.itoa (m : Int)) = true := by
    unfold numB
    rw [num_itoa, itoa_nat, dec_ok]
    simp
    omega
  rw [atoi_num this, num_itoa]
theorem itoa_inj {n m : Int} (h : 0 ≤ n) (hm : 0 ≤ m) (e : Lib.itoa n = Lib.itoa m) : n = m := by
  obtain ⟨a, rfl⟩ : ∃ a : Nat, n = a := ⟨n.toNat, by omega⟩
  obtain ⟨b, rfl⟩ : ∃ a : Nat, m = a := ⟨m.toNat, by omega⟩
  have := congrArg num e
  rw [num_itoa, num_itoa] at this
  omega
/-- A byte that a name may have. -/
def nameC (c : UInt8) : Bool := (decide (97 ≤ c.toNat) && decide (c.toNat ≤ 122)) || (decide (48 ≤ c.toNat) && decide (c.toNat ≤ 57))
theorem name_mem {s : ByteArray} (h : nameMay s = true) {c : UInt8} (hc : c ∈ s.data.toList) : nameC c = true := by
  obtain ⟨k, hk, e⟩ := List.mem_iff_getElem.1 hc
  have hks : k < s.size := by simpa using hk
  simp only [nameMay, Bool.and_eq_true, List.all_eq_true] at h
  have := h.2 k (List.mem_range.2 hks)
  have e2 : s[k] = c := by rw [← e]; rfl
  rw [okAt, byteAt_eq s k hks, e2] at this
  unfold nameC
  simp only [Bool.or_eq_true, Bool.and_eq_true, decide_eq_true_eq] at this ⊢
  omega
theorem name_no {s : ByteArray} (h : nameMay s = true) {c : UInt8} (hc : nameC c = false) : c ∉ s.data.toList := fun hm => by
  rw [name_mem h hm] at hc
  cases hc
theorem name_size {s : ByteArray} (h : nameMay s = true) : 1 ≤ s.size ∧ s.size ≤ 8 := by
  simp only [nameMay, Bool.and_eq_true, decide_eq_true_eq] at h
  exact h.1
/-! ### What is fine -/
def FineN (n : Need) : Prop := nameMay n.kind = true ∧ 1 ≤ n.many ∧ n.many ≤ 16
structure FineC (c : Cont) : Prop where
  name : nameMay c.name = true
  askM : 0 ≤ c.askM ∧ c.askM ≤ 1000000
  askB : 0 ≤ c.askB ∧ c.askB ≤ 1125899906842624
  capM : 0 ≤ c.capM ∧ c.capM ≤ 1000000
  capB : 0 ≤ c.capB ∧ c.capB ≤ 1125899906842624
  many : c.devs.length ≤ 3
  devs : ∀ n ∈ c.devs, FineN n
structure FineG (g : Given) : Prop where
  many : g.devs.length ≤ 16
  devs : ∀ n ∈ g.devs, 0 ≤ n ∧ n ≤ 15
structure FineP (p : Pod) : Prop where
  name : nameMay p.name = true
  prio : 0 ≤ p.prio ∧ p.prio ≤ 1000
  few : 1 ≤ p.conts.length
  many : p.conts.length ≤ 3
  conts : ∀ c ∈ p.conts, FineC c
theorem fine_cont {l : List Cont} {k : Nat} (hk : k < l.length) (h : atFault l k = 0) : FineC l[k] := by
  rw [atFault_at l k hk] at h
  generalize l[k] = c at *
  by_cases h1 : nameMay c.name = true
  · rw [h1] at h
    simp only [Bool.not_true, Bool.false_eq_true, if_false] at h
    split at h
    · exact absurd h (by decide)
    · unfold contFault at h
      split at h
      · exact absurd h (by decide)
      · rename_i h2
        split at h
        · exact absurd h (by decide)
        · split at h
          · exact absurd h (by decide)
          · rename_i h4
            simp only [Bool.or_eq_true, not_or, Bool.not_eq_true, amtBad, decide_eq_false_iff_not] at h2
            refine ⟨h1, by omega, by omega, by omega, by omega, by omega, fun n hn => ?_⟩
            obtain ⟨j, hj, rfl⟩ := List.mem_iff_getElem.1 hn
            have := firstF_all h j hj
            rw [needFault_at c.devs j hj] at this
            split at this
            · exact absurd this (by decide)
            · rename_i h5
              split at this
              · exact absurd this (by decide)
              · refine ⟨?_, by omega, by omega⟩
                simp only [needBad, Bool.or_eq_true, Bool.not_eq_true', not_or, Bool.not_eq_false] at h5
                exact h5.1
  · simp only [Bool.not_eq_true] at h1
    rw [h1] at h
    simp at h
theorem fine_pod {p : Pod} (h : podFault p = 0) : FineP p := by
  unfold podFault at h
  by_cases h1 : nameMay p.name = true
  · rw [h1] at h
    simp only [Bool.not_true, Bool.false_eq_true, if_false] at h
    split at h
    · exact absurd h (by decide)
    · split at h
      · exact absurd h (by decide)
      · refine ⟨h1, by omega, by omega, by omega, fun c hc => ?_⟩
        obtain ⟨k, hk, rfl⟩ := List.mem_iff_getElem.1 hc
        exact fine_cont hk (firstF_all h k hk)
  · simp only [Bool.not_eq_true] at h1
    rw [h1] at h
    simp at h
structure FineH (h : Held) : Prop where
  pod : FineP h.pod
  len : h.given.length = h.pod.conts.length
  given : ∀ g ∈ h.given, FineG g
theorem fine_given {g : Given} (h : givF g = 0) : FineG g := by
  unfold givF at h
  split at h
  · exact absurd h (by decide)
  · refine ⟨by omega, fun n hn => ?_⟩
    obtain ⟨k, hk, rfl⟩ := List.mem_iff_getElem.1 hn
    have := firstF_all h k hk
    rw [devFault_at g.devs k hk] at this
    split at this
    · exact absurd this (by decide)
    · omega
theorem fine_held {l : List Held} (h : heldFault l = 0) : l.length ≤ 12 ∧ ∀ x ∈ l, FineH x := by
  unfold heldFault at h
  split at h
  · exact absurd h (by decide)
  · refine ⟨by omega, fun x hx => ?_⟩
    obtain ⟨k, hk, rfl⟩ := List.mem_iff_getElem.1 hx
    have := firstF_all h k hk
    rw [heldAt_at l k hk] at this
    unfold oneFault at this
    split at this
    · contradiction
    · rename_i h1
      split at this
      · exact absurd this (by decide)
      · rename_i h2
        simp only [not_or, Decidable.not_not] at h1 h2
        refine ⟨fine_pod h1, h2.2, fun g hg => ?_⟩
        obtain ⟨j, hj, rfl⟩ := List.mem_iff_getElem.1 hg
        have := firstF_all this j hj
        rw [givFault_at _ j hj] at this
        exact fine_given this
/-! ### The words of a line -/
theorem numT_no {l : List Int} (h : ∀ n ∈ l, 0 ≤ n) {c : UInt8} (hc : isD c = false) (h1 : c ≠ 44) (h2 : c ≠ 45) : c ∉ numT l := by
  unfold numT
  split
  · simp [h2]
  · intro hm
    rcases join_mem hm with hm | ⟨w, hw, hm⟩
    · exact h1 hm
    · obtain ⟨n, hn, rfl⟩ := List.mem_map.1 hw
      exact itoa_dig (h n hn) hc hm
theorem needT_no {n : Need} (h : FineN n) {c : UInt8} (hd : nameC c = false) (hc : isD c = false) (h3 : c ≠ 58) : c ∉ needT n := by
  unfold needT
  rw [List.mem_append, List.mem_cons]
  rintro (hm | hm | hm)
  · exact name_no h.1 hd hm
  · exact h3 hm
  · exact itoa_dig (by have := h.2.1; omega) hc hm
theorem needsT_no {l : List Need} (h : ∀ n ∈ l, FineN n) {c : UInt8} (hd : nameC c = false) (hc : isD c = false) (h1 : c ≠ 44) (h2 : c ≠ 45) (h3 : c ≠ 58) : c ∉ needsT l := by
  unfold needsT
  split
  · simp [h2]
  · intro hm
    rcases join_mem hm with hm | ⟨w, hw, hm⟩
    · exact h1 hm
    · obtain ⟨n, hn, rfl⟩ := List.mem_map.1 hw
      exact needT_no (h n hn) hd hc h3 hm
theorem textP_no (s : Nat) {c : UInt8} (hc : isD c = false) (h1 : c ≠ 44) (h2 : c ≠ 45) : c ∉ textP s := by
  unfold textP
  intro hm
  rcases join_mem hm with hm | ⟨w, hw, hm⟩
  · exact h1 hm
  · obtain ⟨p, hp, rfl⟩ := List.mem_map.1 hw
    unfold spanT at hm
    rw [List.mem_append] at hm
    rcases hm with hm | hm
    · exact itoa_no _ _ hc hm
    · split at hm
      · rcases List.mem_cons.1 hm with hm | hm
        · exact h2 hm
        · exact itoa_no _ _ hc hm
      · cases hm
theorem setT_no (s : Nat) {c : UInt8} (hc : isD c = false) (h1 : c ≠ 44) (h2 : c ≠ 45) : c ∉ setT s := by
  unfold setT
  split
  · simp [h2]
  · exact textP_no s hc h1 h2
theorem contW_no {c : Cont} {g : Given} (hc : FineC c) (hg : FineG g) {d : UInt8} (hd : d = 32 ∨ d = 10) : ∀ w ∈ contW c g, d ∉ w := by
  have h1 : nameC d = false := by rcases hd with rfl | rfl <;> decide
  have h2 : isD d = false := by rcases hd with rfl | rfl <;> decide
  have h3 : d ≠ 44 := by rcases hd with rfl | rfl <;> decide
  have h4 : d ≠ 45 := by rcases hd with rfl | rfl <;> decide
  have h5 : d ≠ 58 := by rcases hd with rfl | rfl <;> decide
  have h6 : d ∉ wCont := by rcases hd with rfl | rfl <;> decide
  intro w hw
  simp only [contW, List.mem_cons, List.not_mem_nil, or_false] at hw
  rcases hw with rfl | rfl | rfl | rfl | rfl | rfl | rfl | rfl | rfl
  · exact h6
  · exact name_no hc.name h1
  · exact itoa_dig hc.askM.1 h2
  · exact itoa_dig hc.askB.1 h2
  · exact itoa_dig hc.capM.1 h2
  · exact itoa_dig hc.capB.1 h2
  · exact needsT_no hc.devs h1 h2 h3 h4 h5
  · exact setT_no _ h2 h3 h4
  · exact numT_no (fun n hn => (hg.devs n hn).1) h2 h3 h4
theorem podW_no {p : Pod} (hp : FineP p) {d : UInt8} (hd : d = 32 ∨ d = 10) : ∀ w ∈ podW p, d ∉ w := by
  have h1 : nameC d = false := by rcases hd with rfl | rfl <;> decide
  have h2 : isD d = false := by rcases hd with rfl | rfl <;> decide
  have h6 : d ∉ wPod := by rcases hd with rfl | rfl <;> decide
  intro w hw
  simp only [podW, List.mem_cons, List.not_mem_nil, or_false] at hw
  rcases hw with rfl | rfl | rfl
  · exact h6
  · exact name_no hp.name h1
  · exact itoa_dig hp.prio.1 h2
theorem lineT_no {l : List (List UInt8)} (h : ∀ w ∈ l, (10 : UInt8) ∉ w) : (10 : UInt8) ∉ lineT l := by
  intro hm
  rcases join_mem hm with hm | ⟨w, hw, hm⟩
  · exact absurd hm (by decide)
  · exact h w hw hm
/-! ### Words with a comma between, read -/
theorem numT_dash {l : List Int} (h : ∀ n ∈ l, 0 ≤ n) (he : numT l = [45]) : l = [] := by
  by_cases hl : l = []
  · exact hl
  · exfalso
    have : (45 : UInt8) ∈ numT l := by rw [he]; simp
    rw [numT, if_neg hl] at this
    rcases join_mem this with hm | ⟨w, hw, hm⟩
    · exact absurd hm (by decide)
    · obtain ⟨n, hn, rfl⟩ := List.mem_map.1 hw
      exact itoa_dig (h n hn) (by decide) hm
theorem numT_words {l : List Int} (h : ∀ n ∈ l, 0 ≤ n) (hl : l ≠ []) : Lib.split (numT l) [44] = l.map Lib.itoa := by
  rw [numT, if_neg hl]
  refine split_join 44 _ (by simpa using hl) fun w hw => ?_
  obtain ⟨n, hn, rfl⟩ := List.mem_map.1 hw
  exact itoa_dig (h n hn) (by decide)
theorem needsT_dash {l : List Need} (he : needsT l = [45]) : l = [] := by
  cases l with
  | nil => rfl
  | cons a r =>
    exfalso
    have h58 : (58 : UInt8) ∈ needsT (a :: r) := by
      rw [needsT, if_neg (by simp), List.map_cons]
      cases r with
      | nil => rw [List.map_nil, joinC_one]; unfold needT; simp
      | cons b r => rw [List.map_cons, joinC_cons2]; unfold needT; simp
    rw [he] at h58
    simp at h58
theorem needsT_words {l : List Need} (h : ∀ n ∈ l, FineN n) (hl : l ≠ []) : Lib.split (needsT l) [44] = l.map needT := by
  rw [needsT, if_neg hl]
  refine split_join 44 _ (by simpa using hl) fun w hw => ?_
  obtain ⟨n, hn, rfl⟩ := List.mem_map.1 hw
  exact needT_no (h n hn) (by decide) (by decide) (by decide)
theorem needT_cut {n : Need} (h : FineN n) : Lib.cut (needT n) [58] = (n.kind.data.toList, Lib.itoa n.many, true) := cutC_yes _ (name_no h.1 (by decide))
theorem setT_dash {s : Nat} (hs : s < 18446744073709551616) (he : setT s = [45]) : s = 0 := by
  by_cases h : s = 0
  · exact h
  · exfalso
    rw [setT, if_neg h] at he
    have := (parse_text hs).1
    rw [he] at this
    have e : (parseP [45]).2 = 0 := by rw [this]
    have w : wordsP [45] = [[45]] := by rw [wordsP_is]; rfl
    have n : numB (wordA [45]) = false := by
      have : wordA [45] = [] := by
        unfold wordA
        have := cut_yes (p := []) [] (by simp)
        rw [List.nil_append] at this
        rw [this]
      rw [this]
      rfl
    rw [parseP, if_neg (by simp), if_neg (by simp), w] at e
    have := goW_bad (L := [[45]]) (k := 0) (out := 0) (by simp) (r := goW 0 ([[45]] : List (List UInt8))) rfl (.inl n)
    rw [this] at e
    exact absurd e (by decide)
/-! ### Lines -/
inductive Item where
  | pod (name : ByteArray) (prio : Int)
  | cont (c : Cont) (g : Given)
def itemW : Item → List (List UInt8)
  | .pod n p => podW ⟨n, p, []⟩
  | .cont c g => contW c g
def putI (l : List Held) : Item → List Held
  | .pod n p => l ++ [⟨⟨n, p, []⟩, []⟩]
  | .cont c g => match l.getLast? with
    | none => l
    | some h => l.dropLast ++ [addC h c g]
def FineI : Item → Prop
  | .pod n p => nameMay n = true ∧ 0 ≤ p ∧ p ≤ 1000
  | .cont c g => FineC c ∧ FineG g ∧ g.cpus < 18446744073709551616
def itemsH (h : Held) : List Item := .pod h.pod.name h.pod.prio :: List.zipWith Item.cont h.pod.conts h.given
def itemsL (l : List Held) : List Item := (l.map itemsH).flatten
theorem itemsW (l : List Held) : bodyW l = (itemsL l).map itemW := by
  unfold bodyW itemsL
  rw [List.map_flatten, List.map_map]
  congr 1
  refine List.map_congr_left fun h _ => ?_
  show heldW h = (itemsH h).map itemW
  unfold heldW itemsH
  rw [List.map_cons, List.map_zipWith]
  rfl
theorem put_conts (L : List Held) (n : ByteArray) (p : Int) : ∀ (cs : List Cont) (gs : List Given) (cs0 : List Cont) (gs0 : List Given), gs.length = cs.length →
    (List.zipWith Item.cont cs gs).foldl putI (L ++ [⟨⟨n, p, cs0⟩, gs0⟩]) = L ++ [⟨⟨n, p, cs0 ++ cs⟩, gs0 ++ gs⟩]
  | [], [], cs0, gs0, _ => by simp
  | c :: cs, g :: gs, cs0, gs0, h => by
    rw [List.zipWith_cons_cons, List.foldl_cons]
    have : putI (L ++ [⟨⟨n, p, cs0⟩, gs0⟩]) (.cont c g) = L ++ [⟨⟨n, p, cs0 ++ [c]⟩, gs0 ++ [g]⟩] := by simp [putI, addC]
    rw [this, put_conts L n p cs gs _ _ (by simpa using h)]
    simp
theorem put_all : ∀ (l L : List Held), (∀ h ∈ l, h.given.length = h.pod.conts.length) → (itemsL l).foldl putI L = L ++ l
  | [], L, _ => by simp [itemsL]
  | h :: l, L, hl => by
    have e : itemsL (h :: l) = itemsH h ++ itemsL l := by simp [itemsL]
    rw [e, List.foldl_append]
    have : (itemsH h).foldl putI L = L ++ [h] := by
      unfold itemsH
      rw [List.foldl_cons]
      exact (put_conts L h.pod.name h.pod.prio h.pod.conts h.given [] [] (hl h (by simp))).trans (by simp)
    rw [this, put_all l _ fun x hx => hl x (by simp [hx])]
    simp
theorem items_fine {l : List Held} (h : ∀ x ∈ l, FineH x ∧ ∀ g ∈ x.given, g.cpus < 18446744073709551616) : ∀ i ∈ itemsL l, FineI i := by
  intro i hi
  obtain ⟨t, ht, hi⟩ := List.mem_flatten.1 hi
  obtain ⟨x, hx, rfl⟩ := List.mem_map.1 ht
  obtain ⟨hf, hg⟩ := h x hx
  unfold itemsH at hi
  rcases List.mem_cons.1 hi with rfl | hi
  · exact ⟨hf.pod.name, hf.pod.prio⟩
  · obtain ⟨k, hk, rfl⟩ := List.mem_iff_getElem.1 hi
    rw [List.getElem_zipWith]
    rw [List.length_zipWith] at hk
    exact ⟨hf.pod.conts _ (List.getElem_mem _), hf.given _ (List.getElem_mem _), hg _ (List.getElem_mem _)⟩
theorem item_no {i : Item} (h : FineI i) {d : UInt8} (hd : d = 32 ∨ d = 10) : ∀ w ∈ itemW i, d ∉ w := by
  cases i with
  | pod n p =>
    intro w hw
    have h1 : nameC d = false := by rcases hd with rfl | rfl <;> decide
    have h2 : isD d = false := by rcases hd with rfl | rfl <;> decide
    have h6 : d ∉ wPod := by rcases hd with rfl | rfl <;> decide
    simp only [itemW, podW, List.mem_cons, List.not_mem_nil, or_false] at hw
    rcases hw with rfl | rfl | rfl
    · exact h6
    · exact name_no h.1 h1
    · exact itoa_dig h.2.1 h2
  | cont c g => exact contW_no h.1 h.2.1 hd
theorem item_words {i : Item} (h : FineI i) : Lib.split (lineT (itemW i)) [32] = itemW i := split_join 32 _ (by cases i <;> simp [itemW, podW, contW]) (item_no h (.inl rfl))
theorem item_cut {i : Item} (h : FineI i) (r : List UInt8) : Lib.cut (lineT (itemW i) ++ 10 :: r) [10] = (lineT (itemW i), r, true) := cutC_yes r (lineT_no (item_no h (.inr rfl)))
/-! ### The sum's line -/
theorem sumT_no (n : Nat) : ∀ c ∈ (sumT n).drop 1, c ≠ 115 := by
  intro c hc
  have : (sumT n).drop 1 = [117, 109, 32] ++ (Lib.itoa (n : Int) ++ [10]) := by simp [sumT, wSum]
  rw [this, List.mem_append, List.mem_append] at hc
  rcases hc with hc | hc | hc
  · simp at hc; rcases hc with rfl | rfl | rfl <;> decide
  · rintro rfl
    exact itoa_no n 115 (by decide) hc
  · simp at hc; subst hc; decide
theorem occ_start {s : List UInt8} {j : Nat} (h : Lib.occAt s wSum j = true) : s[j]? = some 115 := by
  have := h
  simp only [Lib.occAt, List.isPrefixOf_iff_prefix] at this
  obtain ⟨t, ht⟩ := this
  have e : (s.drop j)[0]? = some 115 := by rw [← ht]; rfl
  rwa [List.getElem?_drop, Nat.add_zero] at e
theorem last_sum (b : List UInt8) (n : Nat) : Lib.lastIndex (b ++ sumT n) wSum = b.length := by
  have hl : (sumT n).length = 4 + (Lib.itoa (n : Int)).length + 1 := by simp [sumT, wSum]; omega
  have h0 : Lib.occAt (b ++ sumT n) wSum b.length = true := by
    simp only [Lib.occAt, List.drop_left', List.isPrefixOf_iff_prefix]
    exact ⟨Lib.itoa (n : Int) ++ [10], by simp [sumT]⟩
  unfold Lib.lastIndex
  rw [if_pos (by rw [List.length_append, hl]; simp [wSum]; omega)]
  rcases Lib.lastOcc_spec (b ++ sumT n) wSum ((b ++ sumT n).length - wSum.length + 1) with ⟨_, hn⟩ | ⟨i, hi, e, hc, hn⟩
  · have := hn b.length (by rw [List.length_append, hl]; simp [wSum]; omega)
    rw [h0] at this
    cases this
  · rw [e]
    rcases Nat.lt_trichotomy i b.length with hlt | heq | hgt
    · have := hn b.length hlt (by rw [List.length_append, hl]; simp [wSum]; omega)
      rw [h0] at this
      cases this
    · rw [heq]
    · exfalso
      have hs := occ_start hc
      rw [List.getElem?_append_right (by omega)] at hs
      have hm : (115 : UInt8) ∈ (sumT n).drop 1 := by
        refine List.mem_iff_getElem?.2 ⟨i - b.length - 1, ?_⟩
        rw [List.getElem?_drop, show 1 + (i - b.length - 1) = i - b.length by omega]
        exact hs
      exact sumT_no n _ hm rfl
theorem summed_cut {b t : List UInt8} (h : t = summed b) : Lib.lastIndex t wSum = b.length ∧ t.take b.length = b ∧ t.drop b.length = sumT (sumP b) := by
  subst h
  unfold summed
  exact ⟨last_sum b _, by simp, by simp⟩
/-! ### What a text holds -/
def SumOk (t : List UInt8) : Prop := ∃ b, t = summed b
def Fit64 (l : List Held) : Prop := ∀ x ∈ l, ∀ g ∈ x.given, g.cpus < 18446744073709551616
def IsText (t : List UInt8) (l : List Held) : Prop := heldFault l = 0 ∧ Fit64 l ∧ textH l = t
theorem nums_inj {l m : List Int} (hl : ∀ n ∈ l, 0 ≤ n) (hm : ∀ n ∈ m, 0 ≤ n) (e : numT l = numT m) : l = m := by
  by_cases h : l = []
  · subst h
    exact (numT_dash hm (by rw [← e]; rfl)).symm
  · by_cases h' : m = []
    · subst h'
      exact absurd (numT_dash hl (by rw [e]; rfl)) h
    · have := numT_words hl h
      rw [e, numT_words hm h'] at this
      clear e h h'
      induction l generalizing m with
      | nil =>
        cases m with
        | nil => rfl
        | cons y m => simp at this
      | cons x l ih =>
        cases m with
        | nil => simp at this
        | cons y m =>
          simp only [List.map_cons, List.cons.injEq] at this
          rw [itoa_inj (hm y (by simp)) (hl x (by simp)) this.1, ih (fun n hn => hl n (by simp [hn])) (fun n hn => hm n (by simp [hn])) this.2]
theorem needs_inj {l m : List Need} (hl : ∀ n ∈ l, FineN n) (hm : ∀ n ∈ m, FineN n) (e : needsT l = needsT m) : l = m := by
  by_cases h : l = []
  · subst h
    exact (needsT_dash (by rw [← e]; rfl)).symm
  · by_cases h' : m = []
    · subst h'
      exact absurd (needsT_dash (by rw [e]; rfl)) h
    · have := needsT_words hl h
      rw [e, needsT_words hm h'] at this
      clear e h h'
      induction l generalizing m with
      | nil =>
        cases m with
        | nil => rfl
        | cons y m => simp at this
      | cons x l ih =>
        cases m with
        | nil => simp at this
        | cons y m =>
          simp only [List.map_cons, List.cons.injEq] at this
          rw [ih (fun n hn => hl n (by simp [hn])) (fun n hn => hm n (by simp [hn])) this.2]
          congr 1
          have c1 := needT_cut (hl x (by simp))
          rw [← this.1, needT_cut (hm y (by simp))] at c1
          simp only [Prod.mk.injEq, and_true] at c1
          obtain ⟨k, n⟩ := x
          obtain ⟨k', n'⟩ := y
          have e1 : k' = k := by rw [← toB_of k, ← toB_of k', c1.1]
          have e2 := itoa_inj (by have := (hm ⟨k', n'⟩ (by simp)).2.1; dsimp only at this ⊢; omega) (by have := (hl ⟨k, n⟩ (by simp)).2.1; dsimp only at this ⊢; omega) c1.2
          dsimp only at e2
          rw [e1, e2]
theorem bodyT_inj {a b : List Held} (ha : heldFault a = 0) (hb : heldFault b = 0) (fa : Fit64 a) (fb : Fit64 b) (e : bodyT a = bodyT b) : a = b := by
  have key : ∀ (I J : List Item), (∀ i ∈ I, FineI i) → (∀ j ∈ J, FineI j) → linesT (I.map itemW) = linesT (J.map itemW) → I.map itemW = J.map itemW := by
    intro I
    induction I with
    | nil =>
      intro J _ _ e
      cases J with
      | nil => rfl
      | cons j J => simp [linesT] at e
    | cons i I ih =>
      intro J hI hJ e
      cases J with
      | nil => simp [linesT] at e
      | cons j J =>
        simp only [List.map_cons, linesT] at e ⊢
        have c1 := item_cut (hI i (by simp)) (linesT (I.map itemW))
        rw [e, item_cut (hJ j (by simp))] at c1
        simp only [Prod.mk.injEq, and_true] at c1
        have w := item_words (hI i (by simp))
        rw [← c1.1, item_words (hJ j (by simp))] at w
        rw [ih J (fun x hx => hI x (by simp [hx])) (fun x hx => hJ x (by simp [hx])) c1.2.symm, w]
  have fA := fine_held ha
  have fB := fine_held hb
  have hI := items_fine (l := a) fun x hx => ⟨fA.2 x hx, fa x hx⟩
  have hJ := items_fine (l := b) fun x hx => ⟨fB.2 x hx, fb x hx⟩
  unfold bodyT at e
  rw [itemsW, itemsW] at e
  have h2 := key _ _ hI hJ e
  have h3 : itemsL a = itemsL b := by
    generalize itemsL a = I at *
    generalize itemsL b = J at *
    clear e
    induction I generalizing J with
    | nil =>
      cases J with
      | nil => rfl
      | cons j J => simp at h2
    | cons i I ih =>
      cases J with
      | nil => simp at h2
      | cons j J =>
        simp only [List.map_cons, List.cons.injEq] at h2
        rw [ih (fun x hx => hI x (by simp [hx])) J (fun x hx => hJ x (by simp [hx])) h2.2]
        congr 1
        have hi := hI i (by simp)
        have hj := hJ j (by simp)
        have hw := h2.1
        cases i with
        | pod n p =>
          cases j with
          | pod n' p' =>
            simp only [itemW, podW, List.cons.injEq, and_true, true_and] at hw
            have e1 : n = n' := by rw [← toB_of n, ← toB_of n', hw.1]
            rw [e1, itoa_inj hi.2.1 hj.2.1 hw.2]
          | cont c g => simp [itemW, podW, contW] at hw
        | cont c g =>
          cases j with
          | pod n p => simp [itemW, podW, contW] at hw
          | cont c' g' =>
            simp only [itemW, contW, List.cons.injEq, and_true, true_and] at hw
            obtain ⟨w1, w2, w3, w4, w5, w6, w7, w8⟩ := hw
            obtain ⟨nm, a1, a2, a3, a4, ds⟩ := c
            obtain ⟨nm', b1, b2, b3, b4, ds'⟩ := c'
            obtain ⟨s, gd⟩ := g
            obtain ⟨s', gd'⟩ := g'
            dsimp only at *
            have e1 : nm = nm' := by rw [← toB_of nm, ← toB_of nm', w1]
            have e2 := itoa_inj hi.1.askM.1 hj.1.askM.1 w2
            have e3 := itoa_inj hi.1.askB.1 hj.1.askB.1 w3
            have e4 := itoa_inj hi.1.capM.1 hj.1.capM.1 w4
            have e5 := itoa_inj hi.1.capB.1 hj.1.capB.1 w5
            dsimp only at e2 e3 e4 e5
            have e6 : ds = ds' := needs_inj hi.1.devs hj.1.devs w6
            have e7 : s = s' := by
              have z1 := hi.2.2
              have z2 := hj.2.2
              dsimp only at z1 z2
              by_cases h0 : s = 0
              · subst h0
                exact (setT_dash z2 (by rw [← w7]; rfl)).symm
              · by_cases h0' : s' = 0
                · subst h0'
                  exact absurd (setT_dash z1 (by rw [w7]; rfl)) h0
                · rw [setT, setT, if_neg h0, if_neg h0'] at w7
                  exact (text_inj z1 z2).1 w7
            have e8 : gd = gd' := nums_inj (fun n hn => (hi.2.1.devs n hn).1) (fun n hn => (hj.2.1.devs n hn).1) w8
            subst e1 e2 e3 e4 e5 e6 e7 e8
            rfl
  have p1 := put_all a [] fun x hx => (fA.2 x hx).len
  have p2 := put_all b [] fun x hx => (fB.2 x hx).len
  rw [h3, p2, List.nil_append, List.nil_append] at p1
  exact p1.symm
theorem isText_one {t : List UInt8} {a b : List Held} (ha : IsText t a) (hb : IsText t b) : a = b := by
  refine bodyT_inj ha.1 hb.1 ha.2.1 hb.2.1 ?_
  have h1 := summed_cut (b := bodyT a) (t := t) ha.2.2.symm
  have h2 := summed_cut (b := bodyT b) (t := t) hb.2.2.symm
  have : (bodyT a).length = (bodyT b).length := by have := h1.1.symm.trans h2.1; omega
  rw [← h1.2.1, this, h2.2.1]
theorem isText_sum {t : List UInt8} {l : List Held} (h : IsText t l) : SumOk t := ⟨bodyT l, h.2.2.symm⟩
open Classical in
noncomputable def parseF (t : List UInt8) : Int := if 6000 < t.length then 2 else if ¬ SumOk t then 12 else if ∃ l, IsText t l then 0 else 4
open Classical in
noncomputable def parseL (t : List UInt8) : List Held := if h : t.length ≤ 6000 ∧ ∃ l, IsText t l then h.2.choose else []
theorem parse_long {t : List UInt8} (h : 6000 < t.length) : parseF t = 2 ∧ parseL t = [] := by
  refine ⟨by rw [parseF, if_pos h], by rw [parseL, dif_neg (by omega)]⟩
theorem parse_nosum {t : List UInt8} (h0 : ¬ 6000 < t.length) (h : ¬ SumOk t) : parseF t = 12 ∧ parseL t = [] := by
  refine ⟨by rw [parseF, if_neg h0, if_pos h], ?_⟩
  rw [parseL, dif_neg]
  rintro ⟨_, l, hl⟩
  exact h (isText_sum hl)
theorem parse_none {t : List UInt8} (h0 : ¬ 6000 < t.length) (hs : SumOk t) (h : ¬ ∃ l, IsText t l) : parseF t = 4 ∧ parseL t = [] := by
  refine ⟨by rw [parseF, if_neg h0, if_neg (by simpa using hs), if_neg h], ?_⟩
  rw [parseL, dif_neg]
  rintro ⟨_, hl⟩
  exact h hl
theorem parse_some {t : List UInt8} {l : List Held} (h0 : ¬ 6000 < t.length) (h : IsText t l) : parseF t = 0 ∧ parseL t = l := by
  refine ⟨by rw [parseF, if_neg h0, if_neg (by simpa using isText_sum h), if_pos ⟨l, h⟩], ?_⟩
  have hh : t.length ≤ 6000 ∧ ∃ l, IsText t l := ⟨by omega, l, h⟩
  rw [parseL, dif_pos hh]
  exact isText_one hh.2.choose_spec h
end Sv
end Go.Proofs.YticmfflnenoplacGreatDoor
namespace Go.Proofs.YticmfflnenoplacGreatDoor
open Go.RowKit Go.Deep Go.Shelf Go.Sort Pop Bi Da Sv Qo
namespace Sv
theorem lineT_pod (p : Pod) : lineT (podW p) = wPod ++ 32 :: (p.name.data.toList ++ 32 :: Lib.itoa p.prio) := by simp [lineT, podW, joinC_cons2, joinC_one]
theorem lineT_cont (c : Cont) (g : Given) : lineT (contW c g) = contT c ++ 32 :: (setT g.cpus ++ 32 :: numT g.devs) := by simp [lineT, contW, joinC_cons2, joinC_one, contT, amT]
theorem linesT_snoc (a : List (List (List UInt8))) (l : List (List UInt8)) : linesT (a ++ [l]) = linesT a ++ (lineT l ++ [10]) := by
  rw [linesT_app]
  simp [linesT]
theorem bodyW_next (l : List Held) {k : Nat} (h : k < l.length) : bodyW (l.take (k + 1)) = bodyW (l.take k) ++ heldW l[k] := by
  unfold bodyW
  rw [List.take_succ_eq_append_getElem h, List.map_append, List.flatten_append]
  simp
/-- What was written: the pods ahead of one, its line, so many of its containers' lines. -/
def innerT (l : List Held) (k : Nat) (h : Held) (i : Nat) : List UInt8 := linesT (bodyW (l.take k) ++ podW h.pod :: (List.zipWith contW h.pod.conts h.given).take i)
theorem inner_zero (l : List Held) (k : Nat) (h : Held) : innerT l k h 0 = linesT (bodyW (l.take k)) ++ (lineT (podW h.pod) ++ [10]) := by
  unfold innerT
  rw [List.take_zero, linesT_snoc]
theorem inner_next (l : List Held) (k : Nat) (h : Held) {i : Nat} (hi : i < h.pod.conts.length) (hg : i < h.given.length) : innerT l k h (i + 1) = innerT l k h i ++ (lineT (contW h.pod.conts[i] h.given[i]) ++ [10]) := by
  unfold innerT
  rw [List.take_succ_eq_append_getElem (by rw [List.length_zipWith]; omega), List.getElem_zipWith, ← linesT_snoc]
  simp
theorem inner_all (l : List Held) {k : Nat} (hk : k < l.length) (hl : l[k].given.length = l[k].pod.conts.length) : innerT l k l[k] l[k].pod.conts.length = linesT (bodyW (l.take (k + 1))) := by
  unfold innerT
  rw [bodyW_next l hk, show (List.zipWith contW l[k].pod.conts l[k].given).take l[k].pod.conts.length = List.zipWith contW l[k].pod.conts l[k].given from List.take_of_length_le (by rw [List.length_zipWith]; omega)]
  rfl
theorem linesT_len {ls : List (List (List UInt8))} (h : ∀ l ∈ ls, (lineT l).length ≤ 999) : (linesT ls).length ≤ 1000 * ls.length := by
  induction ls with
  | nil => simp [linesT]
  | cons l ls ih =>
    have := ih fun x hx => h x (by simp [hx])
    have := h l (by simp)
    simp only [linesT, List.length_append, List.length_cons]
    omega
theorem name_data {s : ByteArray} (h : nameMay s = true) : s.data.toList.length ≤ 8 := (name_size h).2
theorem podL_len {n : ByteArray} {p : Int} (hn : nameMay n = true) (h0 : 0 ≤ p) (h1 : p ≤ 1000) {cs : List Cont} : (lineT (podW ⟨n, p, cs⟩)).length ≤ 999 := by
  rw [lineT_pod]
  have := name_data hn
  have := itoa_16 h0 (by omega : p ≤ 1125899906842624)
  simp only [List.length_append, List.length_cons]
  have : wPod.length = 3 := rfl
  omega
theorem numT_len {l : List Int} (h : ∀ n ∈ l, 0 ≤ n ∧ n ≤ 15) (hl : l.length ≤ 16) : (numT l).length ≤ 272 := by
  unfold numT
  split
  · simp
  · refine Nat.le_trans (join_most (k := 16) ?_ 44) (by rw [List.length_map]; omega)
    intro t ht
    obtain ⟨n, hn, rfl⟩ := List.mem_map.1 ht
    exact itoa_16 (h n hn).1 (by have := (h n hn).2; omega)
theorem setT_len {s : Nat} (hs : s < 18446744073709551616) : (setT s).length ≤ 200 := by
  unfold setT
  split
  · simp
  · exact (parse_text hs).2
theorem contT_len {c : Cont} (h : FineC c) : (contT c).length ≤ 160 := by
  have h1 := name_data h.name
  have h2 := amT_len h.askM.1 (by have := h.askM.2; omega) h.askB.1 h.askB.2
  have h3 := amT_len h.capM.1 (by have := h.capM.2; omega) h.capB.1 h.capB.2
  have h4 := needsT_len h.many fun n hn => ⟨(name_size (h.devs n hn).1).2, by have := (h.devs n hn).2.1; omega, by have := (h.devs n hn).2.2; omega⟩
  unfold contT
  simp only [List.length_append, List.length_cons]
  have : wCont.length = 4 := rfl
  omega
theorem contL_len {c : Cont} {g : Given} (hc : FineC c) (hg : FineG g) (hs : g.cpus < 18446744073709551616) : (lineT (contW c g)).length ≤ 999 := by
  rw [lineT_cont]
  have h1 := contT_len hc
  have h2 := setT_len hs
  have h3 := numT_len hg.devs hg.many
  simp only [List.length_append, List.length_cons]
  omega
theorem heldW_len {x : Held} (hx : FineH x) (hs : ∀ g ∈ x.given, g.cpus < 18446744073709551616) : (heldW x).length ≤ 4 ∧ ∀ l ∈ heldW x, (lineT l).length ≤ 999 := by
  constructor
  · unfold heldW
    rw [List.length_cons, List.length_zipWith]
    have := hx.pod.many
    omega
  · intro l hl
    unfold heldW at hl
    rcases List.mem_cons.1 hl with rfl | hl
    · exact podL_len hx.pod.name hx.pod.prio.1 hx.pod.prio.2
    · obtain ⟨i, hi, rfl⟩ := List.mem_iff_getElem.1 hl
      rw [List.getElem_zipWith]
      exact contL_len (hx.pod.conts _ (List.getElem_mem _)) (hx.given _ (List.getElem_mem _)) (hs _ (List.getElem_mem _))
theorem bodyW_len {l : List Held} (h : ∀ x ∈ l, FineH x) (hs : Fit64 l) : (bodyW l).length ≤ 4 * l.length ∧ ∀ r ∈ bodyW l, (lineT r).length ≤ 999 := by
  induction l with
  | nil => simp [bodyW]
  | cons x l ih =>
    have e : bodyW (x :: l) = heldW x ++ bodyW l := by simp [bodyW]
    have h1 := heldW_len (h x (by simp)) (hs x (by simp))
    have h2 := ih (fun y hy => h y (by simp [hy])) fun y hy => hs y (by simp [hy])
    rw [e]
    refine ⟨by rw [List.length_append, List.length_cons]; omega, fun r hr => ?_⟩
    rcases List.mem_append.1 hr with hr | hr
    · exact h1.2 r hr
    · exact h2.2 r hr
theorem bodyT_len {l : List Held} (h : ∀ x ∈ l, FineH x) (hs : Fit64 l) (hl : l.length ≤ 12) : (linesT (bodyW l)).length ≤ 48000 := by
  have h1 := bodyW_len h hs
  have := linesT_len h1.2
  omega
theorem fine_take {l : List Held} (h : ∀ x ∈ l, FineH x) (hs : Fit64 l) (hl : l.length ≤ 12) (k : Nat) : (linesT (bodyW (l.take k))).length ≤ 48000 :=
  bodyT_len (fun x hx => h x (List.mem_of_mem_take hx)) (fun x hx => hs x (List.mem_of_mem_take hx)) (by rw [List.length_take]; omega)
theorem inner_len {l : List Held} (h : ∀ x ∈ l, FineH x) (hs : Fit64 l) (hl : l.length ≤ 12) {k : Nat} (hk : k < l.length) (i : Nat) : (innerT l k l[k] i).length ≤ 48000 := by
  have h1 := bodyW_len (l := l.take k) (fun x hx => h x (List.mem_of_mem_take hx)) fun x hx => hs x (List.mem_of_mem_take hx)
  have h2 := heldW_len (h _ (List.getElem_mem hk)) (hs _ (List.getElem_mem hk))
  rw [List.length_take] at h1
  unfold innerT
  refine Nat.le_trans (linesT_len (fun r hr => ?_)) ?_
  · rcases List.mem_append.1 hr with hr | hr
    · exact h1.2 r hr
    · refine h2.2 r ?_
      unfold heldW
      rcases List.mem_cons.1 hr with rfl | hr
      · simp
      · exact List.mem_cons_of_mem _ (List.mem_of_mem_take hr)
  · have h3 : (heldW l[k]).length = 1 + (List.zipWith contW l[k].pod.conts l[k].given).length := by unfold heldW; rw [List.length_cons]; omega
    rw [List.length_append, List.length_cons, List.length_take]
    omega
end Sv
theorem holds_zero0 (w : World) (T : TypeId) (nd : Nat) (hs : nd ≤ 24) : Holds (fun (b : UInt8) => Value.int .u8 (b.toNat : Int)) (w.alloc (.cells Lib.zeros24 T)) w.heap.size 0 (Array.replicate nd (0 : UInt8)) := fun j hj => by
  have hj' : j < nd := by simpa using hj
  refine ⟨?_, World.frozen?_alloc_new _ _ _ _⟩
  rw [World.cell?_alloc_new, Lib.zeros24_at _ (by omega), getElem!_pos _ j hj]
  simp
theorem fin_pos0 (w : World) (o : Obj) (dk : Array UInt8) (k : Nat) : ∃ os, (putRow (fun (b : UInt8) => Value.int .u8 (b.toNat : Int)) (w.alloc o) w.heap.size 0 dk).drewN k = grow (w.drewN k) os := by
  rw [alloc_eq_grow]
  obtain ⟨os', _, e⟩ := putRow_grow_new (fun (b : UInt8) => Value.int .u8 (b.toNat : Int)) w #[o] w.heap.size 0 dk (Nat.le_refl _)
  exact ⟨os', by rw [e]; rfl⟩
set_option maxHeartbeats 6400000 in
set_option maxRecDepth 100000 in
theorem FormatUint_in (u : Nat) (hu64 : u < 18446744073709551616) (w : World) (htab : Lib.TabIs Tryz.prog w "internal/strconv.uint64pow10" .u64 Lib.pow10Tab) :
    Calls Tryz.prog 133 #[.int .u64 u, .int .i64 10] w fun e w' => e = .returned (.string ⟨(Lib.itoa (u : Int)).toArray⟩) ∧ Below w.heap.size w w' := by
  have hgrow : ∀ k os, Below w.heap.size w (grow (w.drewN k) os) := fun k os => below_grow9 (below_drewN9 (Below.refl _ _) k) os (Nat.le_refl _)
  by_cases hs : u < 100
  · have HSM : Hid (Calls Tryz.prog 164 #[.int .i64 u] w fun e w' => e = .returned (.string ⟨(Lib.decDigits u).toArray⟩) ∧ w' = w) := Lib.hid (Any.internal_strconv_small (ρ := Tryz.laysM171_ren) { Tryz.laysM171 with } u hs w)
    go_enter Tryz.func133, Tryz.ntmps133
    go_wp2_with fail
    refine HSM.out.mono ?_
    rintro e w' ⟨rfl, rfl⟩
    go_wp2_with fail
    go_ret
    exact ⟨by rw [Lib.itoa_nonneg]; rfl, Below.refl _ _⟩
  · have hu1 : 1 ≤ u := by omega
    have hnd20 : Lib.nDigits u ≤ 20 := by have := Lib.numDigits_eq u hu1 hu64; split at this <;> omega
    have hb3 : Lib.nDigits u ≤ 24 := by omega
    have hal : Tryz.prog.arrayLen 267 = 24 := by simp [Program.arrayLen, Tryz.underlying267]
    have hsl1 : ∀ W, (Instr.sliceAt 267 (.pointer (some ⟨w.heap.size, 0, none⟩)) none (some (.int .i64 (Lib.nDigits u : Int))) none).run Tryz.prog W = .ok (.slice (some ⟨w.heap.size, 0, none⟩) (Lib.nDigits u) 24) W := fun W => by
      rw [run_sliceAt_array_h W 267 ⟨w.heap.size, 0, none⟩ (by simp [Program.arrayLen, Program.elem, Tryz.underlying267]) .i64 (Lib.nDigits u : Int) (by omega) (by rw [hal]; omega)]
      go_simp
    have hH0 := holds_zero0 w 267 (Lib.nDigits u) (by omega)
    have hfmt := Any.internal_strconv_formatBase10 (ρ := Tryz.laysM171_ren) { Tryz.laysM171 with } w.heap.size 0 24 u (Array.replicate (Lib.nDigits u) 0) (w.alloc (.cells Lib.zeros24 267)) hH0 (by rw [Array.size_replicate]; exact Lib.lt_pow_nDigits u) hu64 (by rw [Array.size_replicate]; omega)
    rw [Array.size_replicate] at hfmt
    have HH0 := Lib.hid hH0
    have HND : Hid (Calls Tryz.prog 165 #[.int .u64 u] (w.alloc (.cells Lib.zeros24 267)) fun e w' => e = .returned (.int .i64 (Lib.nDigits u)) ∧ w' = w.alloc (.cells Lib.zeros24 267)) := Lib.hid (Any.internal_strconv_numDigits (ρ := Tryz.laysM171_ren) { Tryz.laysM171 with } u hu1 hu64 _ (Lib.tabIs_alloc htab _))
    have HFM := Lib.hid (show Calls Tryz.prog 166 _ _ _ from hfmt)
    clear hH0 hal hfmt
    go_enter Tryz.func133, Tryz.ntmps133
    go_wp2_with fail
    go_wp2_with fail
    refine HND.out.mono ?_
    rintro e w' ⟨rfl, rfl⟩
    go_wp2_with fail
    refine HFM.out.mono ?_
    rintro e w' ⟨rfl, k, v', dk, rfl, hF⟩
    have hcv : (convert 171 9 (.slice (some ⟨w.heap.size, 0, none⟩) (Lib.nDigits u) 24)).run Tryz.prog ((putRow (fun (b : UInt8) => Value.int .u8 (b.toNat : Int)) (w.alloc (.cells Lib.zeros24 267)) w.heap.size 0 dk).drewN k) = .ok (.string ⟨(Lib.decDigits u).toArray⟩) ((putRow (fun (b : UInt8) => Value.int .u8 (b.toNat : Int)) (w.alloc (.cells Lib.zeros24 267)) w.heap.size 0 dk).drewN k) := by
      have h := run_convert_bytes_back (P := Tryz.prog) ((putRow (fun (b : UInt8) => Value.int .u8 (b.toNat : Int)) (w.alloc (.cells Lib.zeros24 267)) w.heap.size 0 dk).drewN k) 171 9 5 ⟨w.heap.size, 0, none⟩ 24 (Lib.decDigits u) Tryz.underlying171 Tryz.underlying5 Tryz.underlying9 (fun j hj => by
        rw [Lib.row_is_numeral hF j hj, Lib.add_plain, World.cell?_drewN]
        exact cell?_putRow (fun (b : UInt8) => Value.int .u8 (b.toNat : Int)) _ w.heap.size 0 _ dk HH0.out (by rw [hF.size, Array.size_replicate]) j (by rw [hF.size]; rw [Lib.decDigits_length] at hj; exact hj))
      rw [Lib.decDigits_length] at h
      exact h
    go_wp2
    go_ret
    obtain ⟨os, eo⟩ := fin_pos0 w (.cells Lib.zeros24 267) dk k
    rw [eo]
    exact ⟨by rw [Lib.itoa_nonneg]; rfl, hgrow _ _⟩
theorem FormatUint_any (u : Nat) (hu64 : u < 18446744073709551616) (w : World) (hL : LayS w) :
    Calls Tryz.prog 94 #[.int .u64 u, .int .i64 10] w (RetT (Lib.itoa (u : Int)) w) := by
  have HC := Lib.hid (FormatUint_in u hu64 w hL.lay.tab)
  clear hL
  go_enter Tryz.func94, Tryz.ntmps94
  go_wp2_with fail
  refine HC.out.mono ?_
  rintro e w1 ⟨rfl, hb⟩
  go_wp2_with fail
  go_ret
  exact ⟨rfl, hb⟩
end Go.Proofs.YticmfflnenoplacGreatDoor
namespace Go.Proofs.YticmfflnenoplacGreatDoor
open Go.RowKit Qo Da
theorem below_drewN2 {B : Nat} {a w : World} (h : Below B a w) (n : Nat) : Below B a (w.drewN n) := ⟨h.os, h.tape, h.output, h.size, h.block⟩
theorem cont_at2 {w w' : World} {B b off n cap : Nat} {l : List Cont} (h : RSlice w B 6 (RCont w B) [.slice (some ⟨b, off, none⟩) n cap] l) (hb : Below B w w') {k : Nat} (hk : k < l.length) :
    b < B ∧ ∃ A2 c2, RSlice w' B 2 RNeed [.slice A2 l[k].devs.length c2] l[k].devs ∧ l[k].name.size ≤ maxLen ∧ (∀ j u, (contCells l[k] (.slice A2 l[k].devs.length c2))[j]? = some u → w'.cell? ⟨b, off + k * 6 + j, none⟩ = some u) ∧ l[k].devs.length ≤ c2 ∧ c2 ≤ maxLen ∧ ∀ i, i < l[k].devs.length → ∃ b off, A2 = some ⟨b, off, none⟩ ∧ b < B := by
  obtain ⟨hlt, cs', q1, q2, q3⟩ := (h.below hb).at_ hk
  obtain ⟨A2, c2, e, hn, h1, h2, h3, h4⟩ := cont_cells q3
  rw [e] at q2
  exact ⟨hlt, A2, c2, h3.below hb, hn, q2, h1, h2, h4⟩
theorem less_total : ∀ (x y : List UInt8), (Op.bytesLess x y || x == y) = !Op.bytesLess y x
  | [], [] => rfl
  | [], _ :: _ => rfl
  | _ :: _, [] => rfl
  | a :: x, b :: y => by
    have ih := less_total x y
    simp only [Op.bytesLess, List.cons_beq_cons]
    by_cases hab : a = b
    · subst hab
      have : decide (a < a) = false := by simp
      simp only [this, Bool.false_or, beq_self_eq_true, Bool.true_and]
      exact ih
    · have h1 : (a == b) = false := beq_eq_false_iff_ne.2 hab
      have h2 : (b == a) = false := beq_eq_false_iff_ne.2 (fun h => hab h.symm)
      simp only [h1, h2, Bool.false_and, Bool.or_false]
      by_cases hlt : a < b
      · have : ¬ b < a := fun h => by rw [UInt8.lt_iff_toNat_lt] at *; omega
        simp [hlt, this]
      · have : b < a := by
          rw [UInt8.lt_iff_toNat_lt] at *
          have : a.toNat ≠ b.toNat := fun h => hab (UInt8.toNat_inj.1 h)
          omega
        simp [hlt, this]
theorem amtF_01 (m b : Int) : 0 ≤ amtF m b ∧ amtF m b ≤ 1 := by
  unfold amtF
  split <;> omega
theorem amtF_zero {m b : Int} (h : ¬ 0 < amtF m b) : amtBad m b = false := by
  unfold amtF at h
  split at h
  · omega
  · rename_i hh
    simpa using hh
theorem cont_fine (c : Cont) (h : ¬ 0 < amtF c.askM c.askB + amtF c.capM c.capB) : amtBad c.askM c.askB = false ∧ amtBad c.capM c.capB = false := by
  have h1 := amtF_01 c.askM c.askB
  have h2 := amtF_01 c.capM c.capB
  exact ⟨amtF_zero (by omega), amtF_zero (by omega)⟩
theorem cont_bad (c : Cont) (h : 0 < amtF c.askM c.askB + amtF c.capM c.capB) : contFault c = 1 := by
  cases h1 : amtBad c.askM c.askB
  · cases h2 : amtBad c.capM c.capB
    · rw [amtF_no h1, amtF_no h2] at h
      omega
    · exact cont_amt2 h1 h2
  · exact cont_amt1 h1
section
attribute [local irreducible] nameMay atFault contFault twice firstF podFault RCont RSlice amtBad amtF needBad needFault shapeBad lessS
end
end Go.Proofs.YticmfflnenoplacGreatDoor
namespace Go.Proofs.YticmfflnenoplacGreatDoor
open Go.RowKit Go.Deep Pop Bi Da Sv Qo
def TextP (l : List Held) (w : World) (e : Ending) (w' : World) : Prop :=
  ((heldFault l ≠ 0 ∧ e = .returned (.tuple #[.string ⟨#[]⟩, errV (heldFault l)])) ∨ (heldFault l = 0 ∧ e = .returned (.tuple #[.string ⟨(textH l).toArray⟩, .nilIface]))) ∧ Below w.heap.size w w'
theorem fit_of {w : World} {B : Nat} {v : Value} {l : List Held} (h : RSlice w B 4 (RHeld w B) [v] l) : Fit64 l := by
  intro x hx g hg
  obtain ⟨k, hk, rfl⟩ := List.mem_iff_getElem.1 hx
  obtain ⟨A, cap, h1, h2, h3, h4⟩ := h
  rcases h4 with h4 | ⟨b, off, hA, hb, h4⟩
  · omega
  · obtain ⟨cs, _, _, cv, gv, _, _, q⟩ := h4 k hk
    obtain ⟨j, hj, rfl⟩ := List.mem_iff_getElem.1 hg
    obtain ⟨A', cap', p1, p2, p3, p4⟩ := q
    rcases p4 with p4 | ⟨b', off', hA', hb', p4⟩
    · omega
    · obtain ⟨cs', _, _, dv, _, hlt, _⟩ := p4 j hj
      exact hlt
theorem Blk.others {w w' : World} {g b : Nat} {t : TypeId} {cs : Array Value} (h : Blk w g t cs) (hk : Lib.OthersKept 5 (some b) w w') (hg : g ≠ b) (ht : t ≠ 5) : Blk w' g t cs :=
  hk g _ h (by simpa using hg) fun c fz e => by injection e with _ e2 _; exact ht e2
theorem Wr.alloc {B b : Nat} {l : List UInt8} {w : World} (h : Wr B b l w) (o : Obj) : Wr B b l (w.alloc o) := Lib.IsBuilderF.alloc h o
theorem wr_below {T e : TypeId} {B b : Nat} {p : Value} {bs : List Value} {w w' : World} (h : Lib.BuilderAtF T e B b p bs w) (hb : Below w.heap.size w w') : Lib.BuilderAtF T e B b p bs w' := by
  obtain ⟨hB, v, hv, hown, hne⟩ := h
  have hlt : b < w.heap.size := Blk.lt (t := T) (cs := #[p, v]) hv
  exact ⟨hB, v, (hb.block b hlt).trans hv, hown.kept (row := none) ⟨hb.os, hb.tape, hb.output, hb.size, fun k hk _ => hb.block k hk⟩ (Classical.em _), hne⟩
theorem Wr.below {B b : Nat} {l : List UInt8} {w w' : World} (h : Wr B b l w) (hb : Below w.heap.size w w') : Wr B b l w' := by
  rcases h with h | h
  · exact .inl (wr_below h hb)
  · exact .inr (wr_below h hb)
theorem Wr.new (w : World) : Wr w.heap.size w.heap.size [] (w.alloc (.cells #[.pointer none, .slice none 0 0] 173)) := Lib.IsBuilderF.of (Lib.fresh_isBuilder _ _ _)
section
attribute [local irreducible] Lib.itoa Lib.join txtV numT needsT needT amT contT setT linesT bodyW lineT innerT heldFault Wr podW contW sumP textH textP
set_option maxRecDepth 100000 in
set_option maxHeartbeats 8000000 in
theorem SText_any (l : List Held) (v : Value) (B : Nat) (w : World) (hB : B ≤ w.heap.size) (hR : RSlice w B 4 (RHeld w B) [v] l) (hL : LayS w) :
    Calls Tryz.prog 46 #[v] w (TextP l w) := by
  have HC := Lib.hid (SCheck_any l v B w hB hR)
  by_cases hf : heldFault l = 0
  · obtain ⟨h12, hfine⟩ := fine_held hf
    have hfit := fit_of hR
    obtain ⟨A, cap, hv, hcl, hcap, hA⟩ := (RS.of hR).form
    obtain rfl : v = _ := by simpa using hv
    unfold maxLen at hcap
    have HA := Lib.hid hA
    have HR := Lib.hid hR
    have HL := Lib.hid hL
    have HF := Lib.hid hf
    have HFI := Lib.hid hfine
    have HFT := Lib.hid hfit
    have HTK := Lib.hid (fine_take hfine hfit h12)
    have HIN := Lib.hid (fun k (hk : k < l.length) i => inner_len hfine hfit h12 hk i)
    have HT0 : Hid (linesT (bodyW (l.take 0)) = []) := Lib.hid (by rw [List.take_zero]; unfold linesT bodyW; rfl)
    have HTA : Hid (linesT (bodyW (l.take l.length)) = linesT (bodyW l)) := Lib.hid (by rw [List.take_length])
    have HTX : Hid (textH l = linesT (bodyW l) ++ wSum ++ Lib.itoa (sumP (linesT (bodyW l)) : Int) ++ [10]) := Lib.hid (by unfold textH summed sumT bodyT; simp)
    have HSL := Lib.hid (sumP_lt (linesT (bodyW l)))
    clear hR hv hA hL hfine hfit
    go_enter Tryz.func46, Tryz.ntmps46
    go_wp2_with fail
    refine HC.out.mono ?_
    rintro e w1 ⟨rfl, hb1⟩
    rw [HF.out, errV_0]
    clear HC hf
    go_upto_region 5 with fail
    have hw2 := hb1.alloc hb1.size (.cells #[.pointer none, .slice none 0 0] 173)
    have hWr := Wr.new w1
    have hbt := Blk.new w1 173 #[.pointer none, .slice none 0 0]
    have hlt1 := hbt.lt
    generalize hw2e : w1.alloc (.cells #[.pointer none, .slice none 0 0] 173) = w2 at *
    have hb2s := hb1.size
    generalize w1.heap.size = b at *
    clear hb1 hbt hw2e
    have HW2 := Lib.hid hw2
    have HWR := Lib.hid hWr
    clear hw2 hWr
    go_upto_region 6 with fail
    go_loopw [18] (fun i wi => ∃ k : Nat, i = .int .i64 k ∧ k ≤ l.length ∧ Hid (Wr b b (linesT (bodyW (l.take k))) wi) ∧ Hid (Below b w2 wi) ∧ b < wi.heap.size) (fun i _ => l.length - (intOf i).toNat)
    case atStart => exact ⟨0, rfl, by omega, Lib.hid (by rw [HT0.out]; exact HWR.out), Lib.hid (Below.refl _ _), hlt1⟩
    case round =>
      clear HT0 HWR
      obtain ⟨k, rfl, hk, HWK, HBK, hbk⟩ := hrel
      by_cases hlt : k < l.length
      · have HRW := Lib.hid ((HR.out.below (HW2.out.mono hB)).mono fun _ _ h => h.below (HW2.out.mono hB))
        obtain ⟨b0, off, rfl, hb0⟩ := HA.out k hlt
        obtain ⟨A1, c1, A2, c2, r0, r1, r2, r3, hrp, hns, hl1, hc1, hl2, hc2, q1, q2, hgv, hgA⟩ := held_at HRW.out hlt
        have hbB : b0 < b := by omega
        have hcl := fun o => HBK.out.cell (p := ⟨b0, o, none⟩) hbB
        replace r0 := (hcl _).trans r0
        replace r1 := (hcl _).trans r1
        replace r2 := (hcl _).trans r2
        replace r3 := (hcl _).trans r3
        have hx := HFI.out _ (List.getElem_mem hlt)
        have HXN := Lib.hid hx.pod.name
        have hp0 := hx.pod.prio
        have hn8 := (name_size hx.pod.name).2
        have HXC := Lib.hid hx.pod.conts
        have HXG := Lib.hid hx.given
        have HXL := Lib.hid hx.len
        have HXF := Lib.hid (HFT.out _ (List.getElem_mem hlt))
        have HI0 := Lib.hid (inner_zero l k l[k])
        have HINX : Hid (∀ i c g, l[k].pod.conts[i]? = some c → l[k].given[i]? = some g → innerT l k l[k] (i + 1) = innerT l k l[k] i ++ (lineT (contW c g) ++ [10])) := Lib.hid (fun i c g hc hg => by
          obtain ⟨hi, rfl⟩ := List.getElem?_eq_some_iff.1 hc
          obtain ⟨hj, rfl⟩ := List.getElem?_eq_some_iff.1 hg
          exact inner_next l k l[k] hi hj)
        have HIA := Lib.hid (inner_all l hlt hx.len)
        have HIL := Lib.hid (HIN.out k hlt)
        have hlk := HTK.out k
        have HPL := Lib.hid (lineT_pod l[k].pod)
        have hpl := podL_len (cs := l[k].pod.conts) hx.pod.name hx.pod.prio.1 hx.pod.prio.2
        have HQ1 := Lib.hid q1
        have HQ2 := Lib.hid q2
        have HGV := Lib.hid hgv
        have HGA := Lib.hid hgA
        unfold maxLen at hns hc1 hc2
        clear q1 q2 hrp hgv hgA hx hcl
        generalize hxe : l[k] = x at *
        clear hxe
        obtain ⟨⟨name, prio, conts⟩, given⟩ := x
        dsimp only at *
        generalize linesT (bodyW (l.take k)) = lk at *
        generalize innerT l k ⟨⟨name, prio, conts⟩, given⟩ = inn at *
        generalize lineT (podW ⟨name, prio, conts⟩) = pl at *
        generalize hcle : conts.length = cl at *
        have HCL := Lib.hid hcle
        clear hcle
        generalize hgle : given.length = gl at *
        have HGL := Lib.hid hgle
        clear hgle
        have HIT := Lib.hid (fun W (hW : Below w.heap.size w W) => itoa_any prio (by omega) (by omega) W (HL.out.below hW).lay)
        have hil := itoa_16 (n := prio) (by omega) (by omega)
        obtain ⟨t, ht⟩ : ∃ t, t = Lib.itoa prio := ⟨_, rfl⟩
        rw [← ht] at HPL HIT hil
        clear ht
        have HST : Hid ((⟨#[112, 111, 100, 32]⟩ : ByteArray) ++ name ++ ⟨#[32]⟩ ++ ⟨t.toArray⟩ ++ ⟨#[10]⟩ = toB (pl ++ [10])) := Lib.hid (toB_eq (by rw [HPL.out]; simp only [str_add, List.append_assoc, List.cons_append]; rfl))
        go_upto_region 8 with fail
        have hba := HBK.out.alloc (by omega) (.cells #[.string name, .int .i64 prio, .slice A1 cl c1, .slice A2 gl c2] 69)
        have hwa := HWK.out.alloc (.cells #[.string name, .int .i64 prio, .slice A1 cl c1, .slice A2 gl c2] 69)
        have b9 := Blk.new wr 69 #[.string name, .int .i64 prio, .slice A1 cl c1, .slice A2 gl c2]
        clear r0 r1 r2 r3 HBK HWK
        generalize wr.alloc (.cells #[.string name, .int .i64 prio, .slice A1 cl c1, .slice A2 gl c2] 69) = wa at *
        generalize wr.heap.size = pk at *
        have e9 := b9.cells
        have z9 := b9.lt
        have HBA := Lib.hid hba
        have HWA := Lib.hid hwa
        clear hba hwa
        have hI : Below wa.heap.size wa wa.drew := (Below.refl _ _).drew
        refine Flo.region 11 [(0, true), (1, true), (2, true), (3, true), (4, true), (5, true), (6, true), (7, true), (8, false), (9, true), (10, true)] (fun v => Below wa.heap.size wa v) (by kernel_rfl) (by kernel_rfl) rfl hI ?_
        simp only [List.drop_succ_cons, List.drop_zero]
        iterate 8 (apply Flo.op rfl (hI := hI); (· intro v hv K hK; obtain ⟨hc, hf⟩ := Flo.bcl hv; go_wp2_with fail; all_goals first | exact Flo.noUndef (by with_reducible assumption) | exact hK); (· rfl))
        refine Flo.seq rfl fun K hK => ?_
        go_wp2_with fail
        refine (HIT.out _ (HW2.out.trans ((HBA.out.trans (hI.mono (by omega))).mono hb2s))).mono ?_
        rintro e w3 ⟨rfl, hb3⟩
        go_wp2_with fail
        have hI3 : Below wa.heap.size wa w3 := hI.trans (hb3.mono hI.size)
        refine hK _ _ hI3 ?_
        iterate 2 (apply Flo.op rfl (hI := hI3); (· intro v hv K hK; obtain ⟨hc, hf⟩ := Flo.bcl hv; go_wp2_with fail; all_goals first | exact Flo.noUndef (by with_reducible assumption) | exact hK); (· rfl))
        rw [HST.out]
        have HW3 := Lib.hid ((HWA.out.below hI3))
        have HB3 := Lib.hid (HBA.out.trans (hI3.mono (by omega)))
        have hs3 := hI3.size
        have HK3 := Lib.hid (b9.below hI3 b9.lt)
        clear b9 e9 HWA HBA hI
        refine Flo.tail fun K hK => ?_
        go_wp2_with fail
        refine (Write_any b b lk (toB (pl ++ [10])) w3 HW3.out (by rw [toB, size_list, List.length_append]; simp; omega) (by omega)).mono ?_
        rintro e w5 ⟨rfl, hw5, hb5, ho5⟩
        rw [toB_list, ← HI0.out] at hw5
        have HW5 := Lib.hid hw5
        have HB5 := Lib.hid (HB3.out.trans hb5)
        have hs5 := hb5.size
        have b5 := HK3.out.others ho5 (by omega) (by decide)
        have e5 := b5.cells
        have z5 := b5.lt
        have HK5 := Lib.hid b5
        clear b5 hw5 hb5 ho5 HW3 HB3 HK3 hI3 hb3
        go_upto_region 10 with fail
        go_loopw [38] (fun i wi => ∃ m : Nat, i = .int .i64 m ∧ m ≤ cl ∧ Hid (Wr b b (inn m) wi) ∧ Hid (Below b w2 wi) ∧ Hid (Blk wi pk 69 #[.string name, .int .i64 prio, .slice A1 cl c1, .slice A2 gl c2])) (fun i _ => cl - (intOf i).toNat)
        case atStart => exact ⟨0, rfl, by omega, HW5, HB5, HK5⟩
        case round =>
          clear e5 z5 HW5 HB5 HK5 hs5 hs3 z9
          obtain ⟨m, rfl, hm, HWM, HBM, HKM⟩ := hrel
          have kpk := HKM.out.lt
          by_cases hltm : m < cl
          · obtain ⟨b2, off2, hA1e, hb2⟩ := HQ2.out m hltm
            subst hA1e
            have hlc : m < conts.length := by rw [HCL.out]; exact hltm
            have hlgl : m < gl := by rw [HXL.out]; exact hltm
            have hlg : m < given.length := by rw [HGL.out]; exact hlgl
            obtain ⟨b4, off4, hA2e, hb4⟩ := HGA.out m hlgl
            subst hA2e
            have hBm : Below B w2 wr := HBM.out.mono (by omega)
            obtain ⟨_, A3, c3, hnd, hnc, hcc, hl3, hc3, hA3⟩ := cont_at2 HQ1.out hBm hlc
            have g0 := hcc 0 _ rfl
            have g1 := hcc 1 _ rfl
            have g2 := hcc 2 _ rfl
            have g3 := hcc 3 _ rfl
            have g4 := hcc 4 _ rfl
            have g5 := hcc 5 _ rfl
            rw [Nat.add_zero] at g0
            obtain ⟨A5, c5, d0, d1, hgc, hg1, hg2, hgd, hgdA⟩ := given_at ((HGV.out.below hBm).mono fun _ _ h => h.below hBm) hlg
            have hfc := HXC.out _ (List.getElem_mem hlc)
            have hfg := HXG.out _ (List.getElem_mem hlg)
            have HNX := Lib.hid (HINX.out m _ _ (List.getElem?_eq_getElem hlc) (List.getElem?_eq_getElem hlg))
            have hlen := HIL.out m
            have hcn8 := (name_size hfc.name).2
            have hcln := contL_len hfc hfg hgc
            have HLC := Lib.hid (lineT_cont conts[m] given[m])
            have l1 := contT_len hfc
            have l2 := setT_len hgc
            have l3 := numT_len hfg.devs hfg.many
            have hbw : ∀ W, Below wr.heap.size wr W → Below w.heap.size w W := fun W hW => HW2.out.trans ((HBM.out.trans (hW.mono (by omega))).mono hb2s)
            have HCT := Lib.hid (fun W (hW : Below wr.heap.size wr W) => contText_any conts[m] (.slice A3 conts[m].devs.length c3) B W (by have := hW.size; omega) (hnd.below (hW.mono (by omega))) hfc.many (fun n hn => ⟨(name_size (hfc.devs n hn).1).2, by have := (hfc.devs n hn).2.1; omega, by have := (hfc.devs n hn).2.2; omega⟩) (name_size hfc.name).2 hfc.askM.1 (by have := hfc.askM.2; omega) hfc.askB.1 hfc.askB.2 hfc.capM.1 (by have := hfc.capM.2; omega) hfc.capB.1 hfc.capB.2 (HL.out.below (hbw W hW)))
            have HSE := Lib.hid (fun W (hW : Below wr.heap.size wr W) => sset_any given[m].cpus hgc W (HL.out.below (hbw W hW)))
            have HNU := Lib.hid (fun W (hW : Below wr.heap.size wr W) => numbers_any (.slice A5 given[m].devs.length c5) given[m].devs B W (by have := hW.size; omega) (hgd.below (hW.mono (by omega))) hfg.many hfg.devs (HL.out.below (hbw W hW)))
            have hb2w : b2 < wr.heap.size := by omega
            have hb4w : b4 < wr.heap.size := by omega
            have ek := HKM.out.cells
            unfold maxLen at hc3 hg2 hnc
            clear hcc hnd hfc hfg hgd hgdA hA3 hbw
            generalize lineT (contW conts[m] given[m]) = lc at *
            generalize contT conts[m] = t1 at *
            generalize setT given[m].cpus = t2 at *
            generalize numT given[m].devs = t3 at *
            generalize conts[m] = cc at *
            generalize given[m] = gg at *
            obtain ⟨cn, aM, aB, cM, cB, cd⟩ := cc
            obtain ⟨gc, gd⟩ := gg
            dsimp only at *
            generalize cd.length = dl at *
            generalize gd.length = el at *
            have HSX : Hid ((⟨t1.toArray⟩ : ByteArray) ++ ⟨#[32]⟩ ++ ⟨t2.toArray⟩ ++ ⟨#[32]⟩ ++ ⟨t3.toArray⟩ ++ ⟨#[10]⟩ = toB (lc ++ [10])) := Lib.hid (toB_eq (by rw [HLC.out]; simp only [str_add, List.append_assoc, List.cons_append]; rfl))
            clear HLC
            go_upto_region 12 with fail
            have hba := (Below.refl wr.heap.size wr).alloc (Nat.le_refl _) (.cells #[.string cn, .int .i64 aM, .int .i64 aB, .int .i64 cM, .int .i64 cB, .slice A3 dl c3] 73)
            have hwa := HWM.out.alloc (.cells #[.string cn, .int .i64 aM, .int .i64 aB, .int .i64 cM, .int .i64 cB, .slice A3 dl c3] 73)
            have hka := HKM.out.alloc (.cells #[.string cn, .int .i64 aM, .int .i64 aB, .int .i64 cM, .int .i64 cB, .slice A3 dl c3] 73)
            have b8 := Blk.new wr 73 #[.string cn, .int .i64 aM, .int .i64 aB, .int .i64 cM, .int .i64 cB, .slice A3 dl c3]
            have hcw := bcell hba
            replace d0 := (hcw.1 b4 _ hb4w).trans d0
            replace d1 := (hcw.1 b4 _ hb4w).trans d1
            clear g0 g1 g2 g3 g4 g5 HWM HKM ek hcw
            generalize wr.alloc (.cells #[.string cn, .int .i64 aM, .int .i64 aB, .int .i64 cM, .int .i64 cB, .slice A3 dl c3] 73) = wc at *
            have ek := hka.cells
            have ek2 := hka.lt
            have e8 := b8.cells
            have z8 := b8.lt
            have hbs := hba.size
            generalize hpce : wr.heap.size = pc at *
            have HBW := Lib.hid hba
            have HWC := Lib.hid hwa
            have HKC := Lib.hid hka
            have hb4c : b4 < wc.heap.size := by omega
            clear hba hwa hka b8
            have hI : Below wc.heap.size wc wc.drew := (Below.refl _ _).drew
            refine Flo.region 21 [(0, true), (3, true), (4, true), (5, true), (6, true), (7, true), (8, true), (12, true), (13, true), (14, true), (15, true), (16, true), (17, true), (1, false), (2, true), (9, false), (10, true), (11, true), (18, false), (19, true), (20, true)] (fun v => Below wc.heap.size wc v) (by kernel_rfl) (by kernel_rfl) rfl hI ?_
            simp only [List.drop_succ_cons, List.drop_zero]
            iterate 13 (apply Flo.op rfl (hI := hI); (· intro v hv K hK; obtain ⟨hc, hf⟩ := Flo.bcl hv; go_wp2_with fail; all_goals first | exact Flo.noUndef (by with_reducible assumption) | exact hK); (· rfl))
            refine Flo.seq rfl fun K hK => ?_
            go_wp2_with fail
            refine (HCT.out _ (HBW.out.trans (hI.mono hbs))).mono ?_
            rintro e w3 ⟨rfl, hb3⟩
            go_wp2_with fail
            have hI3 : Below wc.heap.size wc w3 := hI.trans (hb3.mono hI.size)
            refine hK _ _ hI3 ?_
            iterate 1 (apply Flo.op rfl (hI := hI3); (· intro v hv K hK; obtain ⟨hc, hf⟩ := Flo.bcl hv; go_wp2_with fail; all_goals first | exact Flo.noUndef (by with_reducible assumption) | exact hK); (· rfl))
            refine Flo.seq rfl fun K hK => ?_
            go_wp2_with fail
            refine (HSE.out _ (HBW.out.trans (hI3.mono hbs))).mono ?_
            rintro e w4 ⟨rfl, hb4'⟩
            go_wp2_with fail
            have hI4 : Below wc.heap.size wc w4 := hI3.trans (hb4'.mono hI3.size)
            refine hK _ _ hI4 ?_
            iterate 2 (apply Flo.op rfl (hI := hI4); (· intro v hv K hK; obtain ⟨hc, hf⟩ := Flo.bcl hv; go_wp2_with fail; all_goals first | exact Flo.noUndef (by with_reducible assumption) | exact hK); (· rfl))
            refine Flo.seq rfl fun K hK => ?_
            go_wp2_with fail
            refine (HNU.out _ (HBW.out.trans (hI4.mono hbs))).mono ?_
            rintro e w5' ⟨rfl, hb5'⟩
            go_wp2_with fail
            have hI5 : Below wc.heap.size wc w5' := hI4.trans (hb5'.mono hI4.size)
            refine hK _ _ hI5 ?_
            iterate 2 (apply Flo.op rfl (hI := hI5); (· intro v hv K hK; obtain ⟨hc, hf⟩ := Flo.bcl hv; go_wp2_with fail; all_goals first | exact Flo.noUndef (by with_reducible assumption) | exact hK); (· rfl))
            rw [HSX.out]
            have HW6 := Lib.hid (HWC.out.below hI5)
            have HB6 := Lib.hid (HBM.out.trans ((HBW.out.trans (hI5.mono hbs)).mono (by omega)))
            have HK6 := Lib.hid (HKC.out.below hI5 ek2)
            have hs5 := hI5.size
            clear HWC HKC HBW hI hI3 hI4 hb3 hb4' hb5' HCT HSE HNU
            refine Flo.tail fun K hK => ?_
            go_wp2_with fail
            refine (Write_any b b (inn m) (toB (lc ++ [10])) w5' HW6.out (by rw [toB, size_list, List.length_append]; simp; omega) (by omega)).mono ?_
            rintro e w7 ⟨rfl, hw7, hb7, ho7⟩
            rw [toB_list, ← HNX.out] at hw7
            have HW7 := Lib.hid hw7
            have HB7 := Lib.hid (HB6.out.trans hb7)
            have HK7 := Lib.hid (HK6.out.others ho7 (by omega) (by decide))
            clear hw7 hb7 ho7 HW6 HB6 HK6
            go_wp2_with fail
            go_roundw
            case rel => exact ⟨m + 1, by first | rfl | go_num, by omega, HW7, HB7, HK7⟩
            case measure => simp [intOf] <;> omega
          · obtain rfl : m = cl := by omega
            rw [HIA.out] at HWM
            have hbk2 : b < wr.heap.size := by omega
            clear HKM
            go_wp2_with fail
            go_roundw
            case rel => exact ⟨k + 1, by first | rfl | go_num, by omega, HWM, HBM, hbk2⟩
            case measure => simp [intOf] <;> omega
      · obtain rfl : k = l.length := by omega
        rw [HTA.out] at HWK
        have hlen := HTK.out l.length
        rw [HTA.out] at hlen
        generalize linesT (bodyW l) = bt at *
        have HST := Lib.hid (Tryz.Builder_String_any_k b b bt wr (by have := HWK.out; unfold Wr at this; exact this) (by omega))
        clear HTA HTK HIN HFI HFT HR HA
        go_wp2_with fail
        refine HST.out.mono ?_
        rintro e w6 ⟨rfl, _, hb6, _⟩
        have hw6 := HW2.out.trans ((HBK.out.trans hb6).mono hb2s)
        have HSU := Lib.hid (Sum_any ⟨bt.toArray⟩ (by rw [size_list]; omega) w6)
        have hslt := HSL.out
        have HFU := Lib.hid (FormatUint_any (sumP bt) (by omega) w6 (HL.out.below hw6))
        have HSU2 : Hid (Calls Tryz.prog 95 #[.string ⟨bt.toArray⟩] w6 (fun e w' => e = .returned (.int .u32 (sumP bt : Nat)) ∧ w' = w6)) := Lib.hid HSU.out
        clear HSU HST
        generalize sumP bt = q at *
        have hqi := itoa_16 (n := (q : Int)) (by omega) (by omega)
        obtain ⟨tq, htq⟩ : ∃ tq, tq = Lib.itoa (q : Int) := ⟨_, rfl⟩
        rw [← htq] at HTX HFU hqi
        clear htq
        go_wp2_with fail
        refine HSU2.out.mono ?_
        rintro e w7 ⟨rfl, rfl⟩
        go_wp2_with fail
        refine HFU.out.mono ?_
        rintro e w8 ⟨rfl, hb8⟩
        go_wp2_with fail
        go_ret2
        exact ⟨.inr ⟨HF.out, by rw [HTX.out]; congr 3⟩, hw6.trans (hb8.mono hw6.size)⟩
  · have HF := Lib.hid hf
    have HE := Lib.hid (errV_pos _ hf)
    clear hL hR hf
    go_enter Tryz.func46, Tryz.ntmps46
    go_wp2_with fail
    refine HC.out.mono ?_
    rintro e w1 ⟨rfl, hb1⟩
    rw [HE.out]
    go_wp2_with fail
    go_ret2
    exact ⟨.inl ⟨HF.out, by rw [HE.out]; rfl⟩, hb1⟩
end
end Go.Proofs.YticmfflnenoplacGreatDoor
