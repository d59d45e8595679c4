/- Containers in order: where one stands, and the one that is laid at the end and goes down: plain laws. No statement is proved here. -/
import Derived.Test.YticmfflnenoplaaEnC
namespace Go.Proofs.Yticmfflnenoplaa
namespace En
theorem bl_irr : ∀ x : List UInt8, Op.bytesLess x x = false
  | [] => rfl
  | a :: x => by
    have := bl_irr x
    simp [Op.bytesLess, this]
theorem bl_trans : ∀ x y z : List UInt8, Op.bytesLess x y = true → Op.bytesLess y z = true → Op.bytesLess x z = true
  | _, [], _, h, _ => by simp [Op.bytesLess] at h
  | _, _ :: _, [], _, h => by simp [Op.bytesLess] at h
  | [], _ :: _, _ :: _, _, _ => rfl
  | a :: x, b :: y, c :: z, h1, h2 => by
    have ih := bl_trans x y z
    simp only [Op.bytesLess, Bool.or_eq_true, decide_eq_true_eq, Bool.and_eq_true, beq_iff_eq] at h1 h2 ⊢
    rcases h1 with h1 | ⟨rfl, h1⟩
    · rcases h2 with h2 | ⟨rfl, h2⟩
      · exact .inl (UInt8.lt_trans h1 h2)
      · exact .inl h1
    · rcases h2 with h2 | ⟨rfl, h2⟩
      · exact .inl h2
      · exact .inr ⟨rfl, ih h1 h2⟩
theorem bl_total : ∀ (x y : List UInt8), (Op.bytesLess x y || x == y) = !Op.bytesLess y x
  | [], [] => rfl
  | [], _ :: _ => rfl
  | _ :: _, [] => rfl
  | a :: x, b :: y => by
    have ih := bl_total x y
    simp only [Op.bytesLess, List.cons_beq_cons]
    by_cases hab : a = b
    · subst hab
      have : decide (a < a) = false := by simp
      simp only [this, Bool.false_or, beq_self_eq_true, Bool.true_and]
      exact ih
    · have h1 : (a == b) = false := beq_eq_false_iff_ne.2 hab
      have h2 : (b == a) = false := beq_eq_false_iff_ne.2 (fun h => hab h.symm)
      simp only [h1, h2, Bool.false_and, Bool.or_false]
      by_cases hlt : a < b
      · have : ¬ b < a := fun h => by rw [UInt8.lt_iff_toNat_lt] at *; omega
        simp [hlt, this]
      · have : b < a := by
          rw [UInt8.lt_iff_toNat_lt] at *
          have : a.toNat ≠ b.toNat := fun h => hab (UInt8.toNat_inj.1 h)
          omega
        simp [hlt, this]
/-- One goes ahead of another one. -/
def ltR (a b : Run) : Bool := Op.bytesLess a.pod.toList b.pod.toList || ((a.pod.toList == b.pod.toList) && Op.bytesLess a.cont.toList b.cont.toList)
theorem beq_comm8 (x y : List UInt8) : (x == y) = (y == x) := by
  rw [Bool.eq_iff_iff]
  simp only [beq_iff_eq]
  exact eq_comm
theorem gtK_lt (r x : Run) : gtK x r.pod r.cont = ltR r x := by
  unfold gtK gtS ltR
  rw [bl_total, bl_total, Bool.not_not, Bool.not_not, beq_comm8 r.pod.toList]
theorem ltR_trans {a b c : Run} (h1 : ltR a b = true) (h2 : ltR b c = true) : ltR a c = true := by
  simp only [ltR, Bool.or_eq_true, Bool.and_eq_true, beq_iff_eq] at h1 h2 ⊢
  rcases h1 with h1 | ⟨e1, h1⟩
  · rcases h2 with h2 | ⟨e2, h2⟩
    · exact .inl (bl_trans _ _ _ h1 h2)
    · exact .inl (e2 ▸ h1)
  · rcases h2 with h2 | ⟨e2, h2⟩
    · exact .inl (e1 ▸ h2)
    · exact .inr ⟨e1.trans e2, bl_trans _ _ _ h1 h2⟩
theorem ltR_irr {a b : Run} (h1 : a.pod.toList = b.pod.toList) (h2 : a.cont.toList = b.cont.toList) : ltR a b = false := by
  simp [ltR, h1, h2, bl_irr]
theorem ltR_tri (r x : Run) (h1 : isK x r.pod r.cont = false) (h2 : gtK x r.pod r.cont = false) : ltR x r = true := by
  rw [gtK_lt] at h2
  simp only [ltR, isK, Bool.or_eq_false_iff, Bool.and_eq_false_iff, beq_eq_false_iff_ne] at h1 h2 ⊢
  have t1 := bl_total x.pod.toList r.pod.toList
  have t2 := bl_total x.cont.toList r.cont.toList
  rw [h2.1] at t1
  by_cases e : x.pod.toList = r.pod.toList
  · have hc : ¬ x.cont.toList = r.cont.toList := by
      rcases h1 with h1 | h1
      · exact absurd e h1
      · exact h1
    have h3 : Op.bytesLess r.cont.toList x.cont.toList = false := by
      rcases h2.2 with h | h
      · exact absurd e.symm h
      · exact h
    rw [h3] at t2
    have hb : (x.cont.toList == r.cont.toList) = false := by rw [beq_eq_false_iff_ne]; exact hc
    rw [hb] at t2
    simp at t2
    simp [e, t2]
  · have hb : (x.pod.toList == r.pod.toList) = false := by rw [beq_eq_false_iff_ne]; exact e
    rw [hb] at t1
    simp at t1
    simp [t1]
theorem ltR_asym {a b : Run} (h : ltR a b = true) : ltR b a = false := by
  cases hb : ltR b a
  · rfl
  · have := ltR_trans h hb
    rw [ltR_irr rfl rfl] at this
    cases this
def Srt (l : List Run) : Prop := l.Pairwise fun a b => ltR a b = true
theorem Srt.at_ {l : List Run} (h : Srt l) {i j : Nat} (hi : i < j) (hj : j < l.length) : ltR (l[i]'(by omega)) l[j] = true := List.pairwise_iff_getElem.1 h i j (by omega) hj hi
/-- The one that is found. -/
theorem at_found {l : List Run} (h : Srt l) {p c : ByteArray} {j : Nat} (hj : j < l.length) (hk : isK l[j] p c = true) : atK p c l = (j, true) := by
  have hk' := hk
  simp only [isK, Bool.and_eq_true, beq_iff_eq] at hk'
  refine atK_hit p c l j hj (fun t ht htj => ?_) hk
  have hlt := h.at_ htj hj
  constructor
  · cases hh : isK l[t] p c
    · rfl
    · simp only [isK, Bool.and_eq_true, beq_iff_eq] at hh
      rw [ltR_irr (hh.1.trans hk'.1.symm) (hh.2.trans hk'.2.symm)] at hlt
      cases hlt
  · have := gtK_lt ⟨p, c, 0, [], none, 0⟩ l[t]
    show gtK l[t] p c = false
    rw [show gtK l[t] p c = ltR ⟨p, c, 0, [], none, 0⟩ l[t] from this]
    have ha := ltR_asym hlt
    simp only [ltR] at ha ⊢
    rw [hk'.1, hk'.2] at ha
    exact ha
theorem at_none {l : List Run} {p c : ByteArray} (h : ∀ j (hj : j < l.length), isK l[j] p c = false) : (atK p c l).2 = false := by
  induction l with
  | nil => rfl
  | cons r l ih =>
    have h0 := h 0 (by simp)
    simp only [List.getElem_cons_zero] at h0
    have := ih (fun j hj => h (j + 1) (by simpa using hj))
    simp only [atK, h0, this]
    simp only [Bool.false_eq_true, if_false]
    split <;> rfl
/-- Where the one that goes down stops. -/
theorem at_down {l : List Run} (h : Srt l) (r : Run) {k : Nat} (hk : k ≤ l.length) (hn : ∀ j (hj : j < l.length), isK l[j] r.pod r.cont = false) (h1 : ∀ j (hj : j < l.length), k ≤ j → ltR r l[j] = true) (h2 : ∀ h0 : 0 < k, ltR r (l[k - 1]'(by omega)) = false) :
    atK r.pod r.cont l = (k, false) := by
  have hbefore : ∀ j (hj : j < l.length), j < k → isK l[j] r.pod r.cont = false ∧ gtK l[j] r.pod r.cont = false := by
    intro j hj hjk
    refine ⟨hn j hj, ?_⟩
    rw [gtK_lt]
    have h3 := h2 (by omega)
    rcases (show j = k - 1 ∨ j < k - 1 by omega) with e | hlt
    · subst e; exact h3
    · cases hh : ltR r l[j]
      · rfl
      · have := ltR_trans hh (h.at_ hlt (by omega))
        rw [h3] at this
        cases this
  by_cases he : k = l.length
  · subst he
    exact atK_end r.pod r.cont l (fun j hj => hbefore j hj hj)
  · exact atK_past r.pod r.cont l k (by omega) hbefore (hn k (by omega)) (by rw [gtK_lt]; exact h1 k (by omega) (Nat.le_refl _))
theorem Srt.ins {l : List Run} (h : Srt l) (r : Run) {k : Nat} (hk : k ≤ l.length) (hn : ∀ j (hj : j < l.length), isK l[j] r.pod r.cont = false) (h1 : ∀ j (hj : j < l.length), k ≤ j → ltR r l[j] = true) (h2 : ∀ h0 : 0 < k, ltR r (l[k - 1]'(by omega)) = false) : Srt (l.take k ++ r :: l.drop k) := by
  have hbefore : ∀ j (hj : j < l.length), j < k → ltR l[j] r = true := by
    intro j hj hjk
    refine ltR_tri r l[j] (hn j hj) ?_
    rw [gtK_lt]
    have h3 := h2 (by omega)
    rcases (show j = k - 1 ∨ j < k - 1 by omega) with e | hlt
    · subst e; exact h3
    · cases hh : ltR r l[j]
      · rfl
      · have := ltR_trans hh (h.at_ hlt (by omega))
        rw [h3] at this
        cases this
  refine List.pairwise_append.2 ⟨List.Pairwise.sublist (List.take_sublist _ _) h, List.pairwise_cons.2 ⟨fun b hb => ?_, List.Pairwise.sublist (List.drop_sublist _ _) h⟩, fun a ha b hb => ?_⟩
  · obtain ⟨i, hi, rfl⟩ := List.mem_iff_getElem.1 hb
    rw [List.getElem_drop]
    exact h1 _ (by simp at hi; omega) (by omega)
  · obtain ⟨i, hi, rfl⟩ := List.mem_iff_getElem.1 ha
    simp only [List.length_take] at hi
    rw [List.getElem_take]
    have ha' := hbefore i (by omega) (by omega)
    rcases List.mem_cons.1 hb with rfl | hb
    · exact ha'
    · obtain ⟨j, hj, rfl⟩ := List.mem_iff_getElem.1 hb
      rw [List.getElem_drop]
      exact ltR_trans ha' (h1 _ (by simp at hj; omega) (by omega))
theorem Srt.del {l : List Run} (h : Srt l) (k : Nat) : Srt (l.take k ++ l.drop (k + 1)) := by
  refine List.Pairwise.sublist ?_ h
  conv => rhs; rw [← List.take_append_drop k l]
  refine List.Sublist.append (List.Sublist.refl _) ?_
  rw [← List.drop_drop]
  exact List.drop_sublist _ _
theorem Srt.nil : Srt [] := List.Pairwise.nil
end En
end Go.Proofs.Yticmfflnenoplaa
