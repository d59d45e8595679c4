/- The class of a pod, what it asks for, what of it is its own, shares, quotas, groups: plain. No program is named here; no statement is proved here. -/
import Derived.Test.YticmfflnenoplacQosA
namespace Go.Proofs.Yticmfflnenoplac
namespace Qo
open Da
structure GoodC (c : Cont) : Prop where
  nm : c.name.size ≤ 8
  aM : 0 ≤ c.askM ∧ c.askM ≤ 1000000
  aB : 0 ≤ c.askB ∧ c.askB ≤ 1125899906842624
  cM : 0 ≤ c.capM ∧ c.capM ≤ 1000000
  cB : 0 ≤ c.capB ∧ c.capB ≤ 1125899906842624
structure GoodP (p : Pod) : Prop where
  nm : p.name.size ≤ 8
  len : p.conts.length ≤ 3
  all : ∀ k (h : k < p.conts.length), GoodC p.conts[k]
theorem nameMay_size {s : ByteArray} (h : nameMay s = true) : s.size ≤ 8 := by
  simp only [nameMay, Bool.and_eq_true, decide_eq_true_eq] at h
  exact h.1.2
theorem amt_ok {m b : Int} (h : amtBad m b = false) : (0 ≤ m ∧ m ≤ 1000000) ∧ 0 ≤ b ∧ b ≤ 1125899906842624 := by
  simp only [amtBad, Bool.or_eq_false_iff, decide_eq_false_iff_not] at h
  omega
theorem goodC_of {l : List Cont} {k : Nat} (h : k < l.length) (h0 : atFault l k = 0) : GoodC l[k] := by
  rw [atFault_at l k h] at h0
  split at h0
  · omega
  rename_i hn
  split at h0
  · omega
  unfold contFault at h0
  split at h0
  · omega
  rename_i ha
  simp only [Bool.not_eq_true, Bool.or_eq_false_iff, Bool.not_eq_false'] at ha hn
  obtain ⟨h1, h2⟩ := amt_ok ha.1
  obtain ⟨h3, h4⟩ := amt_ok ha.2
  exact ⟨nameMay_size hn, h1, h2, h3, h4⟩
theorem good_of {p : Pod} (h : podFault p = 0) : GoodP p := by
  unfold podFault at h
  split at h
  · omega
  rename_i hn
  split at h
  · omega
  split at h
  · omega
  rename_i hl
  simp only [Bool.not_eq_true, Bool.not_eq_false'] at hn
  exact ⟨nameMay_size hn, by omega, fun k hk => goodC_of hk (firstF_all h k hk)⟩
/-! ### Classes -/
def bare (c : Cont) : Bool := decide (c.askM = 0) && decide (c.askB = 0) && decide (c.capM = 0) && decide (c.capB = 0)
def full (c : Cont) : Bool := decide (c.askM = c.capM) && decide (c.askB = c.capB) && decide (0 < c.askM) && decide (0 < c.askB)
def bareK (l : List Cont) (k : Nat) : Bool := (l.take k).all bare
def fullK (l : List Cont) (k : Nat) : Bool := (l.take k).all full
theorem bareK_succ (l : List Cont) (k : Nat) (h : k < l.length) : bareK l (k + 1) = (bareK l k && bare l[k]) := by
  unfold bareK
  rw [List.take_succ_eq_append_getElem h, List.all_append]
  simp
theorem fullK_succ (l : List Cont) (k : Nat) (h : k < l.length) : fullK l (k + 1) = (fullK l k && full l[k]) := by
  unfold fullK
  rw [List.take_succ_eq_append_getElem h, List.all_append]
  simp
theorem bareK_zero (l : List Cont) : bareK l 0 = true := by simp [bareK]
theorem fullK_zero (l : List Cont) : fullK l 0 = true := by simp [fullK]
def cls (p : Pod) : Int := if bareK p.conts p.conts.length then 1 else if fullK p.conts p.conts.length then 3 else 2
theorem cls_1 {p : Pod} (h : bareK p.conts p.conts.length = true) : cls p = 1 := by simp [cls, h]
theorem cls_3 {p : Pod} (h : bareK p.conts p.conts.length = false) (h2 : fullK p.conts p.conts.length = true) : cls p = 3 := by simp [cls, h, h2]
theorem cls_2 {p : Pod} (h : bareK p.conts p.conts.length = false) (h2 : fullK p.conts p.conts.length = false) : cls p = 2 := by simp [cls, h, h2]
theorem cls_any (p : Pod) : cls p = 1 ∨ cls p = 2 ∨ cls p = 3 := by
  unfold cls
  split
  · simp
  · split <;> simp
/-! ### Sums -/
def sumF (f : Cont → Int) (l : List Cont) : Nat → Int
  | 0 => 0
  | k + 1 => sumF f l k + (match l[k]? with | some c => f c | none => 0)
theorem sumF_succ (f : Cont → Int) (l : List Cont) (k : Nat) (h : k < l.length) : sumF f l (k + 1) = sumF f l k + f l[k] := by
  simp [sumF, List.getElem?_eq_getElem h]
theorem sumF_le (f : Cont → Int) (l : List Cont) (M : Int) (hM : ∀ k (h : k < l.length), 0 ≤ f l[k] ∧ f l[k] ≤ M) (k : Nat) (hk : k ≤ l.length) : 0 ≤ sumF f l k ∧ sumF f l k ≤ k * M := by
  induction k with
  | zero => simp [sumF]
  | succ k ih =>
    have h1 := ih (by omega)
    have h2 := hM k (by omega)
    rw [sumF_succ f l k (by omega)]
    have : ((k + 1 : Nat) : Int) * M = k * M + M := by rw [Int.natCast_add, Int.add_mul]; simp
    omega
def askedM (p : Pod) : Int := sumF Cont.askM p.conts p.conts.length
def askedB (p : Pod) : Int := sumF Cont.askB p.conts p.conts.length
theorem GoodP.sums {p : Pod} (h : GoodP p) (k : Nat) (hk : k ≤ p.conts.length) :
    (0 ≤ sumF Cont.askM p.conts k ∧ sumF Cont.askM p.conts k ≤ 3000000) ∧ (0 ≤ sumF Cont.askB p.conts k ∧ sumF Cont.askB p.conts k ≤ 3377699720527872) ∧
    (0 ≤ sumF Cont.capM p.conts k ∧ sumF Cont.capM p.conts k ≤ 3000000) ∧ (0 ≤ sumF Cont.capB p.conts k ∧ sumF Cont.capB p.conts k ≤ 3377699720527872) := by
  have h1 := sumF_le Cont.askM p.conts 1000000 (fun k hk => (h.all k hk).aM) k hk
  have h2 := sumF_le Cont.askB p.conts 1125899906842624 (fun k hk => (h.all k hk).aB) k hk
  have h3 := sumF_le Cont.capM p.conts 1000000 (fun k hk => (h.all k hk).cM) k hk
  have h4 := sumF_le Cont.capB p.conts 1125899906842624 (fun k hk => (h.all k hk).cB) k hk
  have := h.len
  omega
def ownN (p : Pod) (c : Cont) : Int := if cls p = 3 ∧ c.askM % 1000 = 0 then c.askM / 1000 else 0
theorem ownN_yes {p : Pod} {c : Cont} (h : cls p = 3) (h2 : c.askM % 1000 = 0) : ownN p c = c.askM / 1000 := by simp [ownN, h, h2]
theorem ownN_no {p : Pod} {c : Cont} (h : cls p ≠ 3 ∨ c.askM % 1000 ≠ 0) : ownN p c = 0 := by
  unfold ownN
  rw [if_neg]
  rcases h with h | h <;> simp [h]
def shares (m : Int) : Int := if m * 1024 / 1000 < 2 then 2 else if 262144 < m * 1024 / 1000 then 262144 else m * 1024 / 1000
def quota (m : Int) : Int := if m = 0 then -1 else if m < 10 then 1000 else m * 100
theorem shares_lo {m : Int} (h : m * 1024 / 1000 < 2) : shares m = 2 := by simp [shares, h]
theorem shares_hi {m : Int} (h : 262144 < m * 1024 / 1000) : shares m = 262144 := by
  unfold shares
  rw [if_neg (by omega), if_pos h]
theorem shares_mid {m : Int} (h : 2 ≤ m * 1024 / 1000) (h2 : m * 1024 / 1000 ≤ 262144) : shares m = m * 1024 / 1000 := by
  unfold shares
  rw [if_neg (by omega), if_neg (by omega)]
theorem quota_0 {m : Int} (h : m = 0) : quota m = -1 := by simp [quota, h]
theorem quota_lo {m : Int} (h0 : m ≠ 0) (h : m < 10) : quota m = 1000 := by simp [quota, h0, h]
theorem quota_hi {m : Int} (h0 : m ≠ 0) (h : 10 ≤ m) : quota m = m * 100 := by
  unfold quota
  rw [if_neg h0, if_neg (by omega)]
def hasK (f : Cont → Int) (l : List Cont) (k : Nat) : Bool := (l.take k).all fun c => decide (0 < f c)
theorem hasK_succ (f : Cont → Int) (l : List Cont) (k : Nat) (h : k < l.length) : hasK f l (k + 1) = (hasK f l k && decide (0 < f l[k])) := by
  unfold hasK
  rw [List.take_succ_eq_append_getElem h, List.all_append]
  simp
theorem hasK_zero (f : Cont → Int) (l : List Cont) : hasK f l 0 = true := by simp [hasK]
def capF (f : Cont → Int) (l : List Cont) : Int := if hasK f l l.length then sumF f l l.length else 0
theorem capF_yes {f : Cont → Int} {l : List Cont} (h : hasK f l l.length = true) : capF f l = sumF f l l.length := by simp [capF, h]
theorem capF_no {f : Cont → Int} {l : List Cont} (h : hasK f l l.length = false) : capF f l = 0 := by simp [capF, h]
end Qo
end Go.Proofs.Yticmfflnenoplac
