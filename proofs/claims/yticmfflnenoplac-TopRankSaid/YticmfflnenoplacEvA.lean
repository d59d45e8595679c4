/- Who goes first, as plain data: rows, their order, what is used. No program is named here; no statement is proved here. -/
import Derived.Test.YticmfflnenoplacQosF
import Derived.Sort.LotA
namespace Go.Proofs.Yticmfflnenoplac
open Da Qo
namespace Ev
theorem str_of {a b : ByteArray} (h : sameS a b = true) : a = b := by
  have h2 := eq_of_beq h
  rw [ByteArray.toList_eq, ByteArray.toList_eq] at h2
  exact Go.WideShapes.bytes_inj h2
theorem sameS_self (a : ByteArray) : sameS a a = true := by simp [sameS]
theorem sameS_ne {a b : ByteArray} (h : a ≠ b) : sameS a b = false := by
  cases hs : sameS a b
  · rfl
  · exact absurd (str_of hs) h
/-- What is used by a name. -/
def usedF (n : ByteArray) : List Use → Int
  | [] => 0
  | u :: l => if sameS u.name n then u.bytes else usedF n l
theorem usedF_skip (n : ByteArray) (l : List Use) (k : Nat) (hk : k ≤ l.length) (h : ∀ j (hj : j < l.length), j < k → sameS l[j].name n = false) : usedF n l = usedF n (l.drop k) := by
  induction k generalizing l with
  | zero => rfl
  | succ k ih =>
    cases l with
    | nil => simp at hk
    | cons u l =>
      have h0 := h 0 (by simp) (by omega)
      simp only [List.getElem_cons_zero] at h0
      rw [List.drop_succ_cons, ← ih l (by simpa using hk) (fun j hj hjk => h (j + 1) (by simp; omega) (by omega))]
      simp [usedF, h0]
theorem usedF_hit (n : ByteArray) (l : List Use) (k : Nat) (hk : k < l.length) (h : ∀ j (hj : j < l.length), j < k → sameS l[j].name n = false) (hh : sameS l[k].name n = true) : usedF n l = l[k].bytes := by
  rw [usedF_skip n l k (by omega) h, List.drop_eq_getElem_cons hk]
  simp [usedF, hh]
theorem usedF_none (n : ByteArray) (l : List Use) (h : ∀ j (hj : j < l.length), sameS l[j].name n = false) : usedF n l = 0 := by
  rw [usedF_skip n l l.length (Nat.le_refl _) (fun j hj _ => h j hj), List.drop_length]
  rfl
theorem usedF_bound (n : ByteArray) (b : Int) (hb : 0 ≤ b) : ∀ (l : List Use), (∀ u ∈ l, -b ≤ u.bytes ∧ u.bytes ≤ b) → -b ≤ usedF n l ∧ usedF n l ≤ b
  | [], _ => by simp [usedF]; omega
  | u :: l, h => by
    simp only [usedF]
    split
    · exact h u (by simp)
    · exact usedF_bound n b hb l fun x hx => h x (List.mem_cons_of_mem _ hx)
/-! ### Texts in order -/
theorem bl_irr : ∀ a : List UInt8, Op.bytesLess a a = false
  | [] => rfl
  | x :: a => by simp [Op.bytesLess, bl_irr a]
theorem bl_trans : ∀ a b c : List UInt8, Op.bytesLess a b = true → Op.bytesLess b c = true → Op.bytesLess a c = true
  | _, [], _, h, _ => by simp [Op.bytesLess] at h
  | _, _ :: _, [], _, h => by simp [Op.bytesLess] at h
  | [], _ :: _, _ :: _, _, _ => by simp [Op.bytesLess]
  | x :: a, y :: b, z :: c, h1, h2 => by
    simp only [Op.bytesLess, Bool.or_eq_true, Bool.and_eq_true, decide_eq_true_eq, beq_iff_eq, UInt8.lt_iff_toNat_lt] at h1 h2 ⊢
    rcases h1 with h1 | ⟨rfl, h1⟩
    · rcases h2 with h2 | ⟨rfl, h2⟩
      · exact .inl (by omega)
      · exact .inl h1
    · rcases h2 with h2 | ⟨rfl, h2⟩
      · exact .inl h2
      · exact .inr ⟨rfl, bl_trans a b c h1 h2⟩
theorem bl_total : ∀ a b : List UInt8, Op.bytesLess a b = false → Op.bytesLess b a = false → a = b
  | [], [], _, _ => rfl
  | [], _ :: _, h, _ => by simp [Op.bytesLess] at h
  | _ :: _, [], _, h => by simp [Op.bytesLess] at h
  | x :: a, y :: b, h1, h2 => by
    simp only [Op.bytesLess, Bool.or_eq_false_iff, Bool.and_eq_false_iff, decide_eq_false_iff_not, beq_eq_false_iff_ne, UInt8.lt_iff_toNat_lt] at h1 h2
    have hxy : x = y := by
      apply UInt8.toNat_inj.1
      omega
    subst hxy
    rw [bl_total a b (h1.2.resolve_left (fun h => h rfl)) (h2.2.resolve_left (fun h => h rfl))]
theorem less_irr (a : ByteArray) : lessS a a = false := bl_irr _
theorem less_trans {a b c : ByteArray} (h1 : lessS a b = true) (h2 : lessS b c = true) : lessS a c = true := bl_trans _ _ _ h1 h2
theorem less_total {a b : ByteArray} (h1 : lessS a b = false) (h2 : lessS b a = false) : a = b :=
  str_of (by unfold sameS; rw [bl_total _ _ h1 h2]; simp)
theorem less_anti {a b : ByteArray} (h1 : lessS a b = true) : lessS b a = false := by
  cases h2 : lessS b a
  · rfl
  · have := less_trans h1 h2
    rw [less_irr] at this
    cases this
def cmpS (a b : ByteArray) : Int := if lessS a b then -1 else if lessS b a then 1 else 0
def cmpI (x y : Int) : Int := if x < y then -1 else if y < x then 1 else 0
/-! ### Rows -/
structure Row where
  over : Int
  prio : Int
  more : Int
  name : ByteArray
  h : ((0 ≤ over ∧ over ≤ 1) ∧ (0 ≤ prio ∧ prio ≤ 1000)) ∧ (-9000000000000000 ≤ more ∧ more ≤ 9000000000000000) ∧ name.size ≤ 9223372036854775807
theorem Row.ext_ {x y : Row} (h1 : x.over = y.over) (h2 : x.prio = y.prio) (h3 : x.more = y.more) (h4 : x.name = y.name) : x = y := by
  cases x; cases y; simp at *; exact ⟨h1, h2, h3, h4⟩
instance : Inhabited Row := ⟨⟨0, 0, 0, ⟨#[]⟩, by simp [ByteArray.size]⟩⟩
def Row.cells (x : Row) : List Value := [.int .i64 x.over, .int .i64 x.prio, .int .i64 x.more, .string x.name]
/-- The program's comparison. -/
def cf (x y : Row) : Int := if x.over - y.over ≠ 0 then x.over - y.over else if x.prio - y.prio ≠ 0 then x.prio - y.prio else if cmpI y.more x.more ≠ 0 then cmpI y.more x.more else cmpS x.name y.name
/-- One goes ahead of another one. -/
def Lt (x y : Row) : Prop := x.over < y.over ∨ (x.over = y.over ∧ (x.prio < y.prio ∨ (x.prio = y.prio ∧ (y.more < x.more ∨ (y.more = x.more ∧ lessS x.name y.name = true)))))
theorem cf_lt (x y : Row) : cf x y < 0 ↔ Lt x y := by
  unfold cf Lt cmpI cmpS
  by_cases h1 : x.over = y.over
  · by_cases h2 : x.prio = y.prio
    · rcases Int.lt_trichotomy x.more y.more with h3 | h3 | h3
      · simp [h1, h2, show ¬ y.more < x.more by omega, h3, show ¬ y.more = x.more by omega]
      · rw [h1, h2, h3]
        cases h4 : lessS x.name y.name
        · cases h5 : lessS y.name x.name <;> simp
        · simp
      · simp [h1, h2, h3]
    · rw [if_neg (by omega), if_pos (by omega)]
      simp only [h1, h2]
      simp
      omega
  · rw [if_pos (by omega)]
    simp only [h1]
    simp
    omega
theorem Lt.irr (x : Row) : ¬ Lt x x := by
  rintro (h | ⟨_, h | ⟨_, h | ⟨_, h⟩⟩⟩)
  · omega
  · omega
  · omega
  · rw [less_irr] at h; cases h
theorem Lt.trans {x y z : Row} (h1 : Lt x y) (h2 : Lt y z) : Lt x z := by
  unfold Lt at *
  rcases h1 with h1 | ⟨e1, h1⟩
  · rcases h2 with h2 | ⟨e2, h2⟩
    · exact .inl (by omega)
    · exact .inl (by omega)
  · rcases h2 with h2 | ⟨e2, h2⟩
    · exact .inl (by omega)
    · refine .inr ⟨by omega, ?_⟩
      rcases h1 with h1 | ⟨f1, h1⟩
      · rcases h2 with h2 | ⟨f2, h2⟩
        · exact .inl (by omega)
        · exact .inl (by omega)
      · rcases h2 with h2 | ⟨f2, h2⟩
        · exact .inl (by omega)
        · refine .inr ⟨by omega, ?_⟩
          rcases h1 with h1 | ⟨g1, h1⟩
          · rcases h2 with h2 | ⟨g2, h2⟩
            · exact .inl (by omega)
            · exact .inl (by omega)
          · rcases h2 with h2 | ⟨g2, h2⟩
            · exact .inl (by omega)
            · exact .inr ⟨by omega, less_trans h1 h2⟩
theorem Lt.total {x y : Row} (h1 : ¬ Lt x y) (h2 : ¬ Lt y x) : x = y := by
  unfold Lt at h1 h2
  have e1 : x.over = y.over := by
    rcases Int.lt_trichotomy x.over y.over with h | h | h
    · exact absurd (.inl h) h1
    · exact h
    · exact absurd (.inl h) h2
  have e2 : x.prio = y.prio := by
    rcases Int.lt_trichotomy x.prio y.prio with h | h | h
    · exact absurd (.inr ⟨e1, .inl h⟩) h1
    · exact h
    · exact absurd (.inr ⟨e1.symm, .inl h⟩) h2
  have e3 : x.more = y.more := by
    rcases Int.lt_trichotomy x.more y.more with h | h | h
    · exact absurd (.inr ⟨e1.symm, .inr ⟨e2.symm, .inl h⟩⟩) h2
    · exact h
    · exact absurd (.inr ⟨e1, .inr ⟨e2, .inl h⟩⟩) h1
  refine Row.ext_ e1 e2 e3 (less_total ?_ ?_)
  · cases h : lessS x.name y.name
    · rfl
    · exact absurd (.inr ⟨e1, .inr ⟨e2, .inr ⟨e3.symm, h⟩⟩⟩) h1
  · cases h : lessS y.name x.name
    · rfl
    · exact absurd (.inr ⟨e1.symm, .inr ⟨e2.symm, .inr ⟨e3, h⟩⟩⟩) h2
def ltB (x y : Row) : Bool := decide (cf x y < 0)
theorem ltB_iff {x y : Row} : ltB x y = true ↔ Lt x y := by unfold ltB; rw [decide_eq_true_eq]; exact cf_lt x y
theorem ltB_not {x y : Row} : ltB x y = false ↔ ¬ Lt x y := by unfold ltB; rw [decide_eq_false_iff_not, cf_lt]
theorem swo : Go.Sort.SWO ltB where
  irrefl x := ltB_not.2 (Lt.irr x)
  trans x y z h1 h2 := ltB_iff.2 ((ltB_iff.1 h1).trans (ltB_iff.1 h2))
  ntrans x y z h1 h2 := by
    rw [ltB_not] at *
    intro h
    by_cases h3 : Lt y x
    · exact h2 (h3.trans h)
    · have := Lt.total h1 h3
      subst this
      exact h2 h
theorem tot (x y : Row) (h1 : ltB x y = false) (h2 : ltB y x = false) : x = y := Lt.total (ltB_not.1 h1) (ltB_not.1 h2)
/-- Rows in order. -/
def sortR (l : List Row) : List Row := l.mergeSort fun x y => !ltB y x
theorem sortR_perm (l : List Row) : (sortR l).Perm l := List.mergeSort_perm _ _
theorem sortR_sorted (l : List Row) : (sortR l).Pairwise fun x y => ltB y x = false := by
  have h := List.pairwise_mergeSort (le := fun x y : Row => !ltB y x) (fun a b c h1 h2 => by
    rw [Bool.not_eq_true'] at *
    exact swo.ntrans c b a h2 h1) (fun a b => by
    rw [Bool.or_eq_true, Bool.not_eq_true', Bool.not_eq_true']
    cases h : ltB b a
    · exact .inl rfl
    · refine .inr ?_
      cases h2 : ltB a b
      · rfl
      · have := swo.trans _ _ _ h h2
        rw [swo.irrefl] at this
        cases this) l
  exact h.imp fun h => by simpa using h
/-- One row of a pod. -/
def rowOf (us : List Use) (p : Pod) : Row :=
  if h : ((0 ≤ p.prio ∧ p.prio ≤ 1000) ∧ (-9000000000000000 ≤ usedF p.name us - askedB p ∧ usedF p.name us - askedB p ≤ 9000000000000000) ∧ p.name.size ≤ 9223372036854775807) then
    ⟨if 0 < usedF p.name us - askedB p then 0 else 1, p.prio, usedF p.name us - askedB p, p.name, ⟨⟨by split <;> omega, h.1⟩, h.2⟩⟩
  else default
/-- A pod and what is used that may be ranked. -/
structure Fit (us : List Use) (p : Pod) : Prop where
  good : GoodP p
  prio : 0 ≤ p.prio ∧ p.prio ≤ 1000
  used : -2000000000000000 ≤ usedF p.name us ∧ usedF p.name us ≤ 2000000000000000
end Ev
end Go.Proofs.Yticmfflnenoplac
