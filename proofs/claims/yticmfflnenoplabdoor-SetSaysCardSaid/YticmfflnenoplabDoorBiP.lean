/- Sets of processors as texts that are read: plain. No program is named here; no statement is proved here. -/
import Derived.Test.YticmfflnenoplabDoorBiA
import Derived.Test.YticmfflnenoplabDoorAmB
import Derived.Lib.AtoiAllCases
import Derived.Lib.SplitLaws
import Derived.WideShapes
namespace Go.Proofs.YticmfflnenoplabDoor
open Am
namespace Bi
/-- Is it a number as it is written, with room in an int? -/
def numB (a : List UInt8) : Bool := okD a && decide (num a ≤ 9223372036854775807)
theorem okD_cons {a : List UInt8} (h : okD a = true) : ∃ c r, a = c :: r ∧ isD c = true ∧ (r ≠ [] → c ≠ 48) := by
  cases a with
  | nil => simp [okD, lead] at h
  | cons c r =>
    have ha := okD_all h
    simp only [List.all_cons, Bool.and_eq_true] at ha
    refine ⟨c, r, rfl, ha.1, fun hr hc => ?_⟩
    subst hc
    cases r with
    | nil => exact hr rfl
    | cons d r => simp [okD, lead] at h
theorem parse_num : ∀ (l : List UInt8) (acc : Nat), l.all isD = true → valD l acc ≤ 9223372036854775807 → Lib.parseUint10 acc l = .ok (valD l acc)
  | [], acc, _, _ => rfl
  | c :: r, acc, h, hb => by
    simp only [List.all_cons, Bool.and_eq_true] at h
    have hc := isD_le h.1
    have hmono : ∀ (l : List UInt8) (n : Nat), n ≤ valD l n := by
      intro l
      induction l with
      | nil => intro n; exact Nat.le_refl _
      | cons d l ih => intro n; have := ih (10 * n + (d.toNat - 48)); simp only [valD]; omega
    have h1 : valD (c :: r) acc = valD r (10 * acc + (c.toNat - 48)) := rfl
    have h2 := hmono r (10 * acc + (c.toNat - 48))
    rw [h1] at hb ⊢
    rw [Lib.parseUint10, if_pos hc, if_neg (by omega), if_neg (by omega), show acc * 10 + (c.toNat - 48) = 10 * acc + (c.toNat - 48) by omega]
    exact parse_num r _ h.2 hb
theorem atoi_num {a : List UInt8} (h : numB a = true) : Lib.atoiAll a = .ok (num a : Int) := by
  simp only [numB, Bool.and_eq_true, decide_eq_true_eq] at h
  obtain ⟨c, r, rfl, hc, _⟩ := okD_cons h.1
  have hcd := isD_le hc
  rw [Lib.atoiAll_plain c r (by omega) (by omega), Lib.parseMag, if_neg (by simp), parse_num _ 0 (okD_all h.1) h.2]
  simp only [Lib.signless]
  rw [if_neg (by have : num (c :: r) = valD (c :: r) 0 := rfl; omega)]
  rfl
theorem dec_num : ∀ (n : Nat) (a : List UInt8), a.length = n → okD a = true → Lib.decDigits (num a) = a
  | 0, a, hl, h => by
    obtain rfl := List.length_eq_zero_iff.1 hl
    simp [okD, lead] at h
  | n + 1, a, hl, h => by
    have hall := okD_all h
    have hne : a ≠ [] := by intro he; rw [he] at hl; simp at hl
    obtain ⟨l, d, rfl⟩ : ∃ l d, a = l ++ [d] := ⟨a.dropLast, a.getLast hne, (List.dropLast_concat_getLast hne).symm⟩
    simp only [List.all_append, List.all_cons, List.all_nil, Bool.and_true, Bool.and_eq_true] at hall
    have hd := isD_le hall.2
    have e48 : UInt8.ofNat (48 + (d.toNat - 48)) = d := by
      apply UInt8.toNat_inj.1
      rw [UInt8.toNat_ofNat']
      omega
    rw [num_snoc]
    cases l with
    | nil =>
      have : 10 * num [] + (d.toNat - 48) = d.toNat - 48 := by simp [num, valD]
      rw [this, Lib.decDigits, dif_pos (by omega), e48]
      rfl
    | cons c l =>
      have hc48 : c ≠ 48 := by
        obtain ⟨c', r, he, _, hc⟩ := okD_cons h
        simp only [List.cons_append, List.cons.injEq] at he
        obtain ⟨rfl, rfl⟩ := he
        exact hc (by simp)
      have hok : okD (c :: l) = true := by
        have : ¬ (c = 48) := hc48
        simp only [okD, lead, List.isEmpty_cons, List.head?_cons, Bool.false_or, Bool.and_eq_true]
        exact ⟨by simp [this], hall.1⟩
      have hpos : 0 < num (c :: l) := by
        have hcd := isD_le (List.all_eq_true.1 hall.1 c (by simp))
        have hc0 : c.toNat ≠ 48 := fun e => hc48 (UInt8.toNat_inj.1 e)
        have hmono : ∀ (l : List UInt8) (n : Nat), n ≤ valD l n := by
          intro l
          induction l with
          | nil => intro n; exact Nat.le_refl _
          | cons d l ih => intro n; have := ih (10 * n + (d.toNat - 48)); simp only [valD]; omega
        have := hmono l (10 * 0 + (c.toNat - 48))
        show 0 < valD l (10 * 0 + (c.toNat - 48))
        omega
      have ih := dec_num n (c :: l) (by simpa using hl) hok
      rw [Lib.decDigits, dif_neg (by omega)]
      rw [show (10 * num (c :: l) + (d.toNat - 48)) / 10 = num (c :: l) by omega, show (10 * num (c :: l) + (d.toNat - 48)) % 10 = d.toNat - 48 by omega, ih, e48]
theorem itoa_num {a : List UInt8} (h : okD a = true) : Lib.itoa (num a : Int) = a := by rw [itoa_nat]; exact dec_num _ a rfl h
/-- What is read as a number and written again. -/
theorem numB_of {a : List UInt8} {v : Int} (h : Lib.atoiAll a = .ok v) : numB a = (decide (Lib.itoa v = a) && decide (0 ≤ v)) := by
  have hb := Lib.atoiAll_bounds h
  rw [Bool.eq_iff_iff, Bool.and_eq_true, decide_eq_true_eq, decide_eq_true_eq]
  constructor
  · intro hn
    have := atoi_num hn
    rw [h] at this
    injection this with hv
    simp only [numB, Bool.and_eq_true] at hn
    exact ⟨by rw [hv]; exact itoa_num hn.1, by omega⟩
  · rintro ⟨h1, h2⟩
    obtain ⟨n, rfl⟩ : ∃ n : Nat, v = n := ⟨v.toNat, by omega⟩
    rw [itoa_nat] at h1
    rw [← h1]
    simp only [numB, Bool.and_eq_true, decide_eq_true_eq]
    rw [(dec_facts n).2.1]
    exact ⟨dec_ok n, by omega⟩
theorem numB_val {a : List UInt8} {v : Int} (h : Lib.atoiAll a = .ok v) (hn : numB a = true) : v = num a := by
  have := atoi_num hn
  rw [h] at this
  injection this
theorem numB_syn {a : List UInt8} (h : Lib.atoiAll a = .«syntax») : numB a = false := by
  cases hn : numB a
  · rfl
  · rw [atoi_num hn] at h; cases h
theorem numB_rng {a : List UInt8} (h : Lib.atoiAll a = .range) : numB a = false := by
  cases hn : numB a
  · rfl
  · rw [atoi_num hn] at h; cases h
/-- All numbers from one to another one, too. -/
def orR (s : Nat) (a : Nat) : Nat → Nat
  | 0 => s
  | k + 1 => orR s a k ||| 2 ^ (a + k)
theorem orR_lt {s a : Nat} (hs : s < 18446744073709551616) : ∀ {k : Nat}, a + k ≤ 64 → orR s a k < 18446744073709551616
  | 0, _ => hs
  | k + 1, h => or_lt (orR_lt hs (by omega)) (pow_lt (by omega))
/-- A word of a set's text: the two numbers' texts. -/
def wordA (w : List UInt8) : List UInt8 := (Lib.cut w [45]).1
def wordB (w : List UInt8) : List UInt8 := if (Lib.cut w [45]).2.2 then (Lib.cut w [45]).2.1 else (Lib.cut w [45]).1
def goW (out : Nat) : List (List UInt8) → Nat × Int
  | [] => (out, 0)
  | w :: l => if !numB (wordA w) || !numB (wordB w) || decide (num (wordB w) < num (wordA w)) then (0, 4) else if 64 ≤ num (wordB w) then (0, 1) else goW (orR out (num (wordA w)) (num (wordB w) + 1 - num (wordA w))) l
def wordsP (s : List UInt8) : List (List UInt8) := Lib.split s [44]
def parseP (s : List UInt8) : Nat × Int := if 300 < s.length then (0, 2) else if s = [] then (0, 0) else goW 0 (wordsP s)
section
variable {L : List (List UInt8)} {k out : Nat}
theorem goW_bad (hk : k < L.length) {r : Nat × Int} (h : r = goW out (L.drop k)) (hb : numB (wordA L[k]) = false ∨ numB (wordB L[k]) = false ∨ num (wordB L[k]) < num (wordA L[k])) : r = (0, 4) := by
  rw [h, List.drop_eq_getElem_cons hk, goW, if_pos]
  rcases hb with hb | hb | hb <;> simp [hb]
theorem goW_far (hk : k < L.length) {r : Nat × Int} (h : r = goW out (L.drop k)) (h1 : numB (wordA L[k]) = true) (h2 : numB (wordB L[k]) = true) (h3 : num (wordA L[k]) ≤ num (wordB L[k])) (h4 : 64 ≤ num (wordB L[k])) : r = (0, 1) := by
  rw [h, List.drop_eq_getElem_cons hk, goW, if_neg (by simp [h1, h2]; omega), if_pos h4]
theorem goW_next (hk : k < L.length) {r : Nat × Int} (h : r = goW out (L.drop k)) (h1 : numB (wordA L[k]) = true) (h2 : numB (wordB L[k]) = true) (h3 : num (wordA L[k]) ≤ num (wordB L[k])) (h4 : num (wordB L[k]) < 64) : r = goW (orR out (num (wordA L[k])) (num (wordB L[k]) + 1 - num (wordA L[k]))) (L.drop (k + 1)) := by
  rw [h, List.drop_eq_getElem_cons hk, goW, if_neg (by simp [h1, h2]; omega), if_neg (by omega)]
end
end Bi
end Go.Proofs.YticmfflnenoplabDoor
