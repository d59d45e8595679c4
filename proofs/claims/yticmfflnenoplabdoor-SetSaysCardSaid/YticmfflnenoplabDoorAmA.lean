/- Amounts as plain texts: digits, and what is written is read. No statement is proved here. -/
import Derived.Lib.ItoaNum
import Derived.Lib.IndexMore
import Derived.Lib.IndexBytes
import Derived.Lib.Strings
namespace Go.Proofs.YticmfflnenoplabDoor
namespace Am
open Go
def isD (c : UInt8) : Bool := decide (48 ≤ c.toNat) && decide (c.toNat ≤ 57)
def valD : List UInt8 → Nat → Nat
  | [], n => n
  | c :: l, n => valD l (10 * n + (c.toNat - 48))
def num (l : List UInt8) : Nat := valD l 0
theorem valD_app (l m : List UInt8) (n : Nat) : valD (l ++ m) n = valD m (valD l n) := by
  induction l generalizing n with
  | nil => rfl
  | cons c l ih => exact ih _
theorem num_snoc (l : List UInt8) (c : UInt8) : num (l ++ [c]) = 10 * num l + (c.toNat - 48) := valD_app l [c] 0
theorem num_take (l : List UInt8) (k : Nat) (h : k < l.length) : num (l.take (k + 1)) = 10 * num (l.take k) + (l[k].toNat - 48) := by
  rw [List.take_succ_eq_append_getElem h, num_snoc]
theorem isD_le {c : UInt8} (h : isD c = true) : 48 ≤ c.toNat ∧ c.toNat ≤ 57 := by
  simpa [isD] using h
theorem num_lt_snoc {l : List UInt8} {c : UInt8} {n : Nat} (h : num l < 10 ^ n) (hc : isD c = true) : num (l ++ [c]) < 10 ^ (n + 1) := by
  have := isD_le hc
  rw [num_snoc, Nat.pow_succ]
  omega
theorem num_lt (l : List UInt8) (h : l.all isD = true) (k : Nat) (hk : k ≤ l.length) : num (l.take k) < 10 ^ k := by
  induction k with
  | zero => simp [num, valD]
  | succ k ih =>
    have hd := isD_le (List.all_eq_true.1 h l[k] (List.getElem_mem (by omega)))
    have := ih (by omega)
    rw [num_take l k (by omega), Nat.pow_succ]
    omega
theorem num_lt' (l : List UInt8) (h : l.all isD = true) : num l < 10 ^ l.length := by
  have := num_lt l h l.length (Nat.le_refl _)
  rwa [List.take_length] at this
theorem num_grow (l : List UInt8) (k : Nat) (hk : k < l.length) : num (l.take k) ≤ num (l.take (k + 1)) := by
  rw [num_take l k hk]
  omega
theorem num_mono (l : List UInt8) (k : Nat) : ∀ d, k + d ≤ l.length → num (l.take k) ≤ num (l.take (k + d))
  | 0, _ => Nat.le_refl _
  | d + 1, hd => Nat.le_trans (num_mono l k d (by omega)) (num_grow l (k + d) (by omega))
/-- Is it a number, with no nought ahead? -/
def lead (s : List UInt8) : Bool := s.isEmpty || (s.head? == some 48 && decide (1 < s.length))
def okD (s : List UInt8) : Bool := !lead s && s.all isD
def digP (s : List UInt8) (most : Nat) : Nat × Bool := if okD s && decide (s.length ≤ most) then (num s, true) else (0, false)
theorem digP_yes {s : List UInt8} {most : Nat} (h : okD s = true) (hl : s.length ≤ most) : digP s most = (num s, true) := by simp [digP, h, hl]
theorem digP_no {s : List UInt8} {most : Nat} (h : okD s = false ∨ most < s.length) : digP s most = (0, false) := by
  unfold digP
  rcases h with h | h
  · simp [h]
  · rw [if_neg (by simp; intro _; omega)]
theorem digP_or (s : List UInt8) (most : Nat) : (okD s = true ∧ s.length ≤ most ∧ digP s most = (num s, true)) ∨ ((okD s = false ∨ most < s.length) ∧ digP s most = (0, false)) := by
  cases h : okD s
  · exact .inr ⟨.inl rfl, digP_no (.inl h)⟩
  · by_cases hl : s.length ≤ most
    · exact .inl ⟨rfl, hl, digP_yes h hl⟩
    · exact .inr ⟨.inr (by omega), digP_no (.inr (by omega))⟩
theorem okD_all {s : List UInt8} (h : okD s = true) : s.all isD = true := by
  simp only [okD, Bool.and_eq_true] at h
  exact h.2
theorem digP_lt (s : List UInt8) (most : Nat) : (digP s most).1 < 10 ^ most := by
  rcases digP_or s most with ⟨h, hl, he⟩ | ⟨_, he⟩
  · rw [he]
    exact Nat.lt_of_lt_of_le (num_lt' s (okD_all h)) (Nat.pow_le_pow_right (by omega) hl)
  · rw [he]
    exact Nat.pow_pos (by omega)
/-! ### Processors -/
def dot (s : List UInt8) : Nat := s.findIdx (fun c => c == 46)
def fin (n : Int) (ok : Bool) : Int × Int := if !ok then (0, 4) else if n > 1000000 then (0, 1) else (n, 0)
theorem fin_no (n : Int) : fin n false = (0, 4) := rfl
theorem fin_big {n : Int} (h : n > 1000000) : fin n true = (0, 1) := by simp [fin, h]
theorem fin_ok {n : Int} (h : ¬ n > 1000000) : fin n true = (n, 0) := by simp [fin, h]
def dec (m : Nat) : Int := 10 ^ m
def pointP (a b : List UInt8) : Int × Bool := (1000 * ((digP a 6).1 : Int) + ((digP (49 :: b) 4).1 : Int) * 10 ^ (3 - min b.length 3) - 1000, (digP a 6).2 && (digP (49 :: b) 4).2 && !b.isEmpty)
def milliP (s : List UInt8) : Int × Int :=
  if Lib.hasSuffix s [109] then fin (digP (Lib.trimSuffix s [109]) 9).1 (digP (Lib.trimSuffix s [109]) 9).2
  else if (Lib.cut s [46]).2.2 then fin (pointP (Lib.cut s [46]).1 (Lib.cut s [46]).2.1).1 (pointP (Lib.cut s [46]).1 (Lib.cut s [46]).2.1).2
  else fin (1000 * (digP (Lib.cut s [46]).1 6).1) (digP (Lib.cut s [46]).1 6).2
def milliT (n : Int) : List UInt8 := if n % 1000 = 0 then Lib.itoa (n / 1000) else Lib.itoa n ++ [109]
/-! ### Bytes -/
def units : List (List UInt8 × Nat) := [([84, 105], 1099511627776), ([71, 105], 1073741824), ([77, 105], 1048576), ([75, 105], 1024), ([], 1)]
def byteP (t : List UInt8) (size : Nat) : Int × Int := if (digP t 16).2 then (if (digP t 16).1 > 1125899906842624 / size then (0, 1) else ((digP t 16).1 * size, 0)) else (0, 4)
def bytesU (s : List UInt8) : List (List UInt8 × Nat) → Int × Int
  | [] => (0, 4)
  | u :: l => if Lib.hasSuffix s u.1 then byteP (Lib.trimSuffix s u.1) u.2 else bytesU s l
def bytesP (s : List UInt8) : Int × Int := bytesU s units
def textU (n : Nat) : List (List UInt8 × Nat) → List UInt8
  | [] => [48]
  | u :: l => if 0 < n ∧ n % u.2 = 0 then Lib.itoa ((n / u.2 : Nat) : Int) ++ u.1 else textU n l
def bytesT (n : Nat) : List UInt8 := textU n units
/-! ### What is written is read -/
theorem dec_facts (n : Nat) : (Lib.decDigits n).all isD = true ∧ num (Lib.decDigits n) = n ∧ (Lib.decDigits n ≠ []) ∧ (0 < n → (Lib.decDigits n).head? ≠ some 48) := by
  induction n using Nat.strongRecOn with
  | _ n ih =>
    have hd : ∀ k, k < 10 → (UInt8.ofNat (48 + k)).toNat = 48 + k := by
      intro k hk
      rw [UInt8.toNat_ofNat']
      omega
    by_cases h : n < 10
    · rw [Lib.decDigits, dif_pos h]
      refine ⟨?_, ?_, by simp, ?_⟩
      · simp [isD]; omega
      · simp [num, valD]; omega
      · intro hn
        simp only [List.head?_cons, ne_eq, Option.some.injEq]
        intro he
        have := congrArg UInt8.toNat he
        rw [hd n h] at this
        simp at this
        omega
    · rw [Lib.decDigits, dif_neg h]
      obtain ⟨h1, h2, h3, h4⟩ := ih (n / 10) (by omega)
      refine ⟨?_, ?_, by simp, ?_⟩
      · rw [List.all_append, h1]
        simp [isD]; omega
      · rw [num_snoc, h2, hd (n % 10) (by omega)]
        omega
      · intro _
        have := h4 (by omega)
        revert this h3
        cases Lib.decDigits (n / 10) with
        | nil => intro a; exact absurd rfl a
        | cons c l => intro _ a; simpa using a
theorem dec_len (n k : Nat) (hk : 1 ≤ k) (h : n < 10 ^ k) : (Lib.decDigits n).length ≤ k := by
  induction k generalizing n with
  | zero => omega
  | succ k ih =>
    by_cases hn : n < 10
    · rw [Lib.decDigits, dif_pos hn]; simp
    · rw [Lib.decDigits, dif_neg hn]
      rw [Nat.pow_succ] at h
      by_cases hk0 : k = 0
      · subst hk0; omega
      · have := ih (n / 10) (by omega) (by omega)
        simp; omega
theorem dec_ok (n : Nat) : okD (Lib.decDigits n) = true := by
  obtain ⟨h1, h2, h3, h4⟩ := dec_facts n
  unfold okD lead
  rw [h1]
  by_cases hn : 0 < n
  · have := h4 hn
    simp [h3, this]
  · obtain rfl : n = 0 := by omega
    rw [Lib.decDigits, dif_pos (by omega)]
    decide
theorem dig_dec (n k : Nat) (hk : 1 ≤ k) (h : n < 10 ^ k) : digP (Lib.decDigits n) k = (n, true) := by
  rw [digP_yes (dec_ok n) (dec_len n k hk h), (dec_facts n).2.1]
theorem itoa_nat (n : Nat) : Lib.itoa (n : Int) = Lib.decDigits n := by
  unfold Lib.itoa
  rw [if_neg (by omega)]
  simp
theorem not_mem_dig {l : List UInt8} (h : l.all isD = true) (c : UInt8) (hc : isD c = false) : c ∉ l := fun hm => by
  rw [List.all_eq_true.1 h c hm] at hc
  cases hc
theorem suf_app (l p : List UInt8) : Lib.hasSuffix (l ++ p) p = true ∧ Lib.trimSuffix (l ++ p) p = l := by
  have h : Lib.hasSuffix (l ++ p) p = true := by
    unfold Lib.hasSuffix
    rw [List.isSuffixOf_iff_suffix]
    exact List.suffix_append _ _
  refine ⟨h, ?_⟩
  unfold Lib.trimSuffix
  rw [if_pos h]
  simp
theorem suf_no {l p : List UInt8} {c : UInt8} (hp : p.getLast? = some c) (h : l.getLast? ≠ some c) : Lib.hasSuffix l p = false := by
  cases hh : Lib.hasSuffix l p
  · rfl
  · unfold Lib.hasSuffix at hh
    rw [List.isSuffixOf_iff_suffix] at hh
    obtain ⟨t, rfl⟩ := hh
    exact absurd (by rw [List.getLast?_append, hp]; rfl) h
theorem suf_dig {l p : List UInt8} {c : UInt8} (hl : l.all isD = true) (hp : p.getLast? = some c) (hc : isD c = false) : Lib.hasSuffix l p = false :=
  suf_no hp fun he => not_mem_dig hl c hc (List.mem_of_getLast? he)
theorem cut_none {l : List UInt8} (h : (46 : UInt8) ∉ l) : Lib.cut l [46] = (l, [], false) := by
  have : Lib.index l [46] = -1 := by
    rw [Lib.index_one]
    induction l with
    | nil => rfl
    | cons b l ih =>
      have hb : (b == 46) = false := by
        rw [beq_eq_false_iff_ne]
        intro he
        exact h (by simp [he])
      have := ih (fun hm => h (by simp [hm]))
      simp [Lib.indexByte, hb, this]
  unfold Lib.cut
  rw [if_neg (by omega)]
theorem milli_back (n : Int) (h0 : 0 ≤ n) (h1 : n ≤ 1000000) : milliP (milliT n) = (n, 0) := by
  obtain ⟨m, rfl⟩ : ∃ m : Nat, n = m := ⟨n.toNat, by omega⟩
  unfold milliT
  by_cases hm : m % 1000 = 0
  · rw [if_pos (by omega), show ((m : Int) / 1000) = ((m / 1000 : Nat) : Int) by omega, itoa_nat]
    have hall := (dec_facts (m / 1000)).1
    unfold milliP
    rw [suf_dig hall (p := [109]) rfl (by decide), cut_none (not_mem_dig hall 46 (by decide))]
    dsimp only
    rw [dig_dec (m / 1000) 6 (by omega) (by omega)]
    simp only [Bool.false_eq_true, if_false]
    rw [fin_ok (by omega)]
    congr 1
    omega
  · rw [if_neg (by omega), itoa_nat]
    unfold milliP
    have ⟨h2, h3⟩ := suf_app (Lib.decDigits m) [109]
    rw [if_pos h2, h3, dig_dec m 9 (by omega) (by omega), fin_ok (by dsimp only; omega)]
theorem byteP_dec (k size : Nat) (h : k ≤ 1125899906842624 / size) (hk : k ≤ 1125899906842624) : byteP (Lib.decDigits k) size = (((k * size : Nat) : Int), 0) := by
  unfold byteP
  rw [dig_dec k 16 (by omega) (by omega)]
  dsimp only
  rw [if_pos rfl, if_neg (by omega)]
  simp
theorem back_unit (m : Nat) (h1 : m ≤ 1125899906842624) (size : Nat) (hm : m % size = 0) : byteP (Lib.decDigits (m / size)) size = ((m : Int), 0) := by
  have h2 := Nat.div_le_div_right (c := size) h1
  have h3 : m / size ≤ m := Nat.div_le_self _ _
  rw [byteP_dec (m / size) size h2 (by omega), Nat.div_mul_cancel (Nat.dvd_of_mod_eq_zero hm)]
theorem suf_two (l : List UInt8) (a b : UInt8) (h : a ≠ b) : Lib.hasSuffix (l ++ [a, 105]) [b, 105] = false := by
  cases hh : Lib.hasSuffix (l ++ [a, 105]) [b, 105]
  · rfl
  · unfold Lib.hasSuffix at hh
    rw [List.isSuffixOf_iff_suffix] at hh
    obtain ⟨t, ht⟩ := hh
    have := congrArg List.reverse ht
    simp at this
    exact absurd this.1.symm h
theorem bytes_back (m : Nat) (h1 : m ≤ 1125899906842624) : bytesP (bytesT m) = ((m : Int), 0) := by
  unfold bytesT units
  simp only [textU]
  by_cases h0 : 0 < m
  · simp only [h0, true_and]
    unfold bytesP units
    by_cases ht : m % 1099511627776 = 0
    · rw [if_pos ht, itoa_nat]
      have ⟨a, b⟩ := suf_app (Lib.decDigits (m / 1099511627776)) [84, 105]
      simp only [bytesU, a, b, if_true]
      exact back_unit m h1 _ ht
    · rw [if_neg ht]
      by_cases hg : m % 1073741824 = 0
      · rw [if_pos hg, itoa_nat]
        have ⟨a, b⟩ := suf_app (Lib.decDigits (m / 1073741824)) [71, 105]
        simp only [bytesU, a, b, if_true, suf_two _ 71 84 (by decide), Bool.false_eq_true, if_false]
        exact back_unit m h1 _ hg
      · rw [if_neg hg]
        by_cases hme : m % 1048576 = 0
        · rw [if_pos hme, itoa_nat]
          have ⟨a, b⟩ := suf_app (Lib.decDigits (m / 1048576)) [77, 105]
          simp only [bytesU, a, b, if_true, suf_two _ 77 84 (by decide), suf_two _ 77 71 (by decide), Bool.false_eq_true, if_false]
          exact back_unit m h1 _ hme
        · rw [if_neg hme]
          by_cases hk : m % 1024 = 0
          · rw [if_pos hk, itoa_nat]
            have ⟨a, b⟩ := suf_app (Lib.decDigits (m / 1024)) [75, 105]
            simp only [bytesU, a, b, if_true, suf_two _ 75 84 (by decide), suf_two _ 75 71 (by decide), suf_two _ 75 77 (by decide), Bool.false_eq_true, if_false]
            exact back_unit m h1 _ hk
          · rw [if_neg hk, if_pos (Nat.mod_one m), itoa_nat, Nat.div_one, List.append_nil]
            have hall := (dec_facts m).1
            have hn : Lib.hasSuffix (Lib.decDigits m) [] = true ∧ Lib.trimSuffix (Lib.decDigits m) [] = Lib.decDigits m := by
              have := suf_app (Lib.decDigits m) []
              simpa using this
            simp only [bytesU, suf_dig hall (p := [84, 105]) (c := 105) rfl (by decide), suf_dig hall (p := [71, 105]) (c := 105) rfl (by decide), suf_dig hall (p := [77, 105]) (c := 105) rfl (by decide), suf_dig hall (p := [75, 105]) (c := 105) rfl (by decide), hn, Bool.false_eq_true, if_false, if_true]
            have := back_unit m h1 1 (Nat.mod_one m)
            rwa [Nat.div_one] at this
  · obtain rfl : m = 0 := by omega
    simp only [Nat.lt_irrefl, false_and, if_false]
    decide +kernel
end Am
end Go.Proofs.YticmfflnenoplabDoor
