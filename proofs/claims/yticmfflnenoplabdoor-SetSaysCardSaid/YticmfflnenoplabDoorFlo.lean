/- A region whose order is open: operations that answer alike in every world of a kind float; what writes goes in its own row. No program is named here; no statement is proved here. -/
import Derived.StillTail
import Derived.WalkKit
namespace Go.Proofs.YticmfflnenoplabDoor.Flo

/-- Nothing but to go on. -/
def QF : Exit → Act → World → Prop := fun _ _ _ => False

section
variable {P : Program} {ops : Array Oper} {md : Region.Mode} {I : World → Prop}

/-- One operation, or its being passed over. -/
def opN (P : Program) (ops : Array Oper) (o : Oper) (K : Act → World → Prop) (a : Act) (w : World) : Prop :=
  if Region.wanted o (yielded ops a.tmps) = true then o.wp P a w K QF else K (a.put o.dst undef) w

theorem opN_mono {o : Oper} {a : Act} {w : World} {K K' : Act → World → Prop} (h : ∀ a w, K a w → K' a w) (hh : opN P ops o K a w) : opN P ops o K' a w := by
  unfold opN at *
  split
  · rename_i hw; rw [if_pos hw] at hh; exact Oper.wp_mono h hh
  · rename_i hw; rw [if_neg hw] at hh; exact h _ _ hh

theorem noLets : ¬ LetsOut QF := fun ⟨_, _, h⟩ => h

theorem wp_weak {o : Oper} {a : Act} {w : World} {K : Act → World → Prop} {Q : Exit → Act → World → Prop} (hh : o.wp P a w K QF) : o.wp P a w K Q := by
  unfold Oper.wp at *
  generalize (execOp a.eval o).run P w = r at *
  cases r with
  | ok n w' =>
    cases n <;> simp only [Oper.upon] at hh ⊢ <;>
      first
        | exact hh
        | exact Calls.mono hh (fun e w'' he => by cases e <;> first | exact he | exact he.elim | exact (noLets he).elim)
  | halt x w' => cases x <;> simp only [Oper.upon] at hh ⊢ <;> exact hh.elim

theorem wpOp_of_opN {i : Nat} {o : Oper} {a : Act} {w : World} {K : Act → World → Prop} {Q : Exit → Act → World → Prop} (ho : ops[i]? = some o) (hh : opN P ops o K a w) : wpOp P ops Q i K a w := by
  unfold opN at hh
  unfold wpOp
  simp only [ho]
  split
  · rename_i hw; rw [if_pos hw] at hh; exact .inl (wp_weak hh)
  · rename_i hw; rw [if_neg hw] at hh; exact hh

theorem opN_of_list {o : Oper} {a : Act} {w : World} {K : Act → World → Prop} (h : wpList P ops (Exit.then K QF) [o] a w) : opN P ops o K a w := by
  unfold wpList at h
  unfold opN
  split
  · rename_i hw
    rw [if_pos hw] at h
    rcases h with h | ⟨_, a1, w1, h⟩
    · have h2 : o.wp P a w K (Exit.then K QF) := Oper.wp_mono (fun _ _ h => h) h
      unfold Oper.wp at *
      generalize (execOp a.eval o).run P w = r at *
      cases r with
      | ok n w' =>
        cases n <;> simp only [Oper.upon] at h2 ⊢ <;>
          first
            | exact h2
            | exact Calls.mono h2 (fun e w'' he => by
                cases e
                · exact he
                · exact he
                · obtain ⟨_, _, he⟩ := he; exact he.elim)
      | halt x w' => cases x <;> simp only [Oper.upon] at h2 ⊢ <;> exact h2
    · exact h.elim
  · rename_i hw; rw [if_neg hw] at h; exact h

/-- What an operation that floats comes to: v in its slot, the world as it was. -/
def Yd (P : Program) (o : Oper) (a : Act) (v : Value) (w : World) : Result Next → Prop
  | .ok (.value u) w' => w' = w ∧ a.put o.dst u = a.put o.dst v
  | .ok .skip w' => w' = w ∧ a.put o.dst undef = a.put o.dst v
  | .ok (.enter f args) w' => Calls P f args w' (fun e w'' => ∃ u, e = .returned u ∧ w'' = w ∧ a.put o.dst u = a.put o.dst v)
  | .ok (.row row args) w' => Rows P row args w' (fun u w'' => w'' = w ∧ a.put o.dst u = a.put o.dst v)
  | _ => False
def YV (P : Program) (ops : Array Oper) (I : World → Prop) (o : Oper) (v : Value) (a : Act) : Prop :=
  (Region.wanted o (yielded ops a.tmps) = true ∧ ∀ w, I w → Yd P o a v w ((execOp a.eval o).run P w)) ∨ (Region.wanted o (yielded ops a.tmps) = false ∧ a.put o.dst undef = a.put o.dst v)

theorem YV.opN {o : Oper} {v : Value} {a : Act} {w : World} {K : Act → World → Prop} (hy : YV P ops I o v a) (hI : I w) (h : K (a.put o.dst v) w) : opN P ops o K a w := by
  unfold Flo.opN
  rcases hy with ⟨hw, hy⟩ | ⟨hw, he⟩
  · rw [if_pos hw]
    have hy := hy w hI
    unfold Oper.wp
    generalize (execOp a.eval o).run P w = r at *
    cases r with
    | ok n w' =>
      cases n <;> simp only [Yd] at hy <;> simp only [Oper.upon]
      case value u => rw [hy.1, hy.2]; exact h
      case skip => rw [hy.1, hy.2]; exact h
      case enter f args => exact hy.mono fun e w'' ⟨u, he, hw'', hp⟩ => by subst he; subst hw''; show K _ _; rw [hp]; exact h
      case row row args => exact hy.mono fun u w'' ⟨hw'', hp⟩ => by subst hw''; show K _ _; rw [hp]; exact h
    | halt x w' => simp only [Yd] at hy
  · rw [if_neg (by rw [hw]; simp), he]
    exact h

theorem put_eq {a : Act} {d : Option Tmp} {u v : Value} (h : a.put d u = a.put d v) (x : Option Tmp) (t : Value) (hne : ∀ k, x = some k → d ≠ some k) : (a.put x t).put d u = (a.put x t).put d v := by
  have hne' : ∀ k, d = some k → x ≠ some k := fun k hk hx => hne k hx hk
  rw [← Act.put_comm a u t hne', ← Act.put_comm a v t hne', h]
theorem put_eqD {a : Act} {d : Option Tmp} {u v : Value} (h : a.put d u = a.put d v) (x : Deferred) : ({ a with defers := x :: a.defers } : Act).put d u = ({ a with defers := x :: a.defers } : Act).put d v := by
  rw [← Act.put_defers, ← Act.put_defers, h]

theorem YV.of_same {o : Oper} {v : Value} {a a' : Act} (hy : YV P ops I o v a) (he : execOp a'.eval o = execOp a.eval o) (hw : Region.wanted o (yielded ops a'.tmps) = Region.wanted o (yielded ops a.tmps))
    (hp : ∀ u, a.put o.dst u = a.put o.dst v → a'.put o.dst u = a'.put o.dst v) : YV P ops I o v a' := by
  unfold YV at *
  rw [he, hw]
  rcases hy with ⟨h1, h2⟩ | ⟨h1, h2⟩
  · refine .inl ⟨h1, fun w hI => ?_⟩
    have hy := h2 w hI
    generalize (execOp a.eval o).run P w = r at *
    cases r with
    | ok n w' =>
      cases n <;> simp only [Yd] at hy ⊢
      case value u => exact ⟨hy.1, hp _ hy.2⟩
      case skip => exact ⟨hy.1, hp _ hy.2⟩
      case enter f args => exact hy.mono fun e w'' ⟨u, he, hw'', hq⟩ => ⟨u, he, hw'', hp _ hq⟩
      case row row args => exact hy.mono fun u w'' ⟨hw'', hq⟩ => ⟨hw'', hp _ hq⟩
    | halt x w' => simp only [Yd] at hy
  · exact .inr ⟨h1, hp _ h2⟩

theorem opN_put {oi oj : Oper} {v : Value} (hap : oi.apart ops oj = true) (hsi : ∀ cs b, oi.op ≠ .select cs b) (hsj : ∀ cs b, oj.op ≠ .select cs b) {K : Act → World → Prop} {a : Act} {w : World}
    (hy : YV P ops I oi v a) (h : opN P ops oj K (a.put oi.dst v) w) : opN P ops oj (fun a' w' => YV P ops I oi v a' ∧ K (a'.put oi.dst v) w') a w := by
  obtain ⟨h1, h2, h3⟩ := Oper.apart_spec hap
  have hn : ∀ k, oj.dst = some k → oi.dst ≠ some k := fun k hk hi => h2 k hi hk
  have keep : ∀ (a : Act), YV P ops I oi v a → ∀ u, YV P ops I oi v (a.put oj.dst u) := fun a hy u =>
    hy.of_same (execOp_put oi hsi a oj.dst u h3) (wanted_put oi a oj.dst u h3) fun t ht => put_eq ht _ _ hn
  have keepD : ∀ d, YV P ops I oi v { a with defers := d :: a.defers } := fun d => hy.of_same rfl rfl fun t ht => put_eqD ht d
  unfold opN at *
  rw [wanted_put oj a oi.dst v h1] at h
  split
  · rename_i hw
    rw [if_pos hw] at h
    unfold Oper.wp at *
    rw [execOp_put oj hsj a oi.dst v h1] at h
    generalize (execOp a.eval oj).run P w = r at *
    cases r with
    | ok n w' =>
      cases n <;> simp only [Oper.upon] at h ⊢
      case value u => exact ⟨keep a hy u, by rw [← Act.put_comm a v u h2]; exact h⟩
      case skip => exact ⟨keep a hy _, by rw [← Act.put_comm a v undef h2]; exact h⟩
      case defer d =>
        refine ⟨keep _ (keepD d) _, ?_⟩
        rw [← Act.put_comm _ v undef h2, ← Act.put_defers]
        exact h
      case enter f args =>
        refine Calls.mono h fun e w'' he => ?_
        cases e with
        | returned u => exact ⟨keep a hy u, by rw [← Act.put_comm a v u h2]; exact he⟩
        | panicked c => exact he
        | outgrown => exact he
      case row row args => exact Rows.mono h fun u w'' he => ⟨keep a hy u, by rw [← Act.put_comm a v u h2]; exact he⟩
    | halt x w' => cases x <;> simp only [Oper.upon] at h ⊢ <;> exact h
  · rename_i hw
    rw [if_neg hw] at h
    exact ⟨keep a hy _, by rw [← Act.put_comm a v undef h2]; exact h⟩

/-- Each order; ahead of the operation n all worlds are of the kind. -/
def anyI (P : Program) (md : Region.Mode) (ops : Array Oper) (I : World → Prop) (n : Nat) (Q : Act → World → Prop) : Nat → Array Bool → Act → World → Prop
  | 0, listed, a, w => Region.ready md ops listed = [] ∧ Q a w
  | f + 1, listed, a, w =>
    Region.ready md ops listed ≠ [] ∧
    ∀ i ∈ Region.ready md ops listed, ∃ o, ops[i]? = some o ∧ opN P ops o (fun a' w' => (i < n → I w') ∧ anyI P md ops I n Q f (listed.setIfInBounds i true) a' w') a w

theorem any_of_anyI {n : Nat} {Q : Exit → Act → World → Prop} : ∀ (f : Nat) (listed : Array Bool) (a : Act) (w : World), anyI P md ops I n (Q .normal) f listed a w → wpAny P md ops Q f listed a w
  | 0, _, _, _, h => h
  | f + 1, _, _, _, h => ⟨fun h0 => absurd h0 h.1, fun i hi => by
      obtain ⟨o, ho, hh⟩ := h.2 i hi
      exact wpOp_of_opN ho (opN_mono (fun a w h => any_of_anyI f _ a w h.2) hh)⟩

structure Closed (md : Region.Mode) (ops : Array Oper) (listed : Array Bool) : Prop where
  size : listed.size = ops.size
  closed : ∀ j oj, ops[j]? = some oj → listed.getD j false = true → ∀ e ∈ oj.after, Region.binds md e = true → listed.getD e.on false = true
theorem Closed.set {i : Nat} {listed : Array Bool} (inv : Closed md ops listed) (hi : i ∈ Region.ready md ops listed) : Closed md ops (listed.setIfInBounds i true) := by
  obtain ⟨_, oi, hoi, hall⟩ := mem_ready.1 hi
  refine ⟨by simp [inv.size], fun j oj hj hl e he hb => ?_⟩
  by_cases hij : i = j
  · subst hij
    have : oj = oi := Option.some.inj (hj.symm.trans hoi)
    subst this
    exact getD_set_true (hall e he hb)
  · rw [getD_set_ne false hij] at hl
    exact getD_set_true (inv.closed j oj hj hl e he hb)

/-- Masks of what goes ahead of each operation: each bit is told by an edge. -/
def ancB (md : Region.Mode) (ops : Array Oper) (B : Array Nat) : Bool :=
  (List.range ops.size).all fun t => match ops[t]? with
    | some o => (o.after.toList.all fun e => !Region.binds md e || decide (e.on < t)) && (List.range ops.size).all fun i => !(B.getD t 0).testBit i || o.after.toList.any fun e => Region.binds md e && (e.on == i || (B.getD e.on 0).testBit i)
    | none => true
theorem anc_listed {B : Array Nat} {listed : Array Bool} (hB : ancB md ops B = true) (inv : Closed md ops listed) (i : Nat) (hi : i < ops.size) :
    ∀ (t : Nat) (ot : Oper), ops[t]? = some ot → (∀ e ∈ ot.after, Region.binds md e = true → listed.getD e.on false = true) → (B.getD t 0).testBit i = true → listed.getD i false = true := by
  intro t
  induction t using Nat.strongRecOn with
  | _ t ih =>
    intro ot hot hall hbit
    have ht : t < ops.size := (Array.getElem?_eq_some_iff.1 hot).1
    have h1 := List.all_eq_true.1 hB t (List.mem_range.2 ht)
    simp only [hot, Bool.and_eq_true] at h1
    obtain ⟨hlt, h2⟩ := h1
    have h3 := List.all_eq_true.1 h2 i (List.mem_range.2 hi)
    simp only [hbit, Bool.not_true, Bool.false_or] at h3
    obtain ⟨e, he, h4⟩ := List.any_eq_true.1 h3
    simp only [Bool.and_eq_true, Bool.or_eq_true, beq_iff_eq] at h4
    obtain ⟨hb, h4⟩ := h4
    have he' : e ∈ ot.after := by simpa using he
    have hl := hall e he' hb
    rcases h4 with h4 | h4
    · rw [← h4]; exact hl
    · have h5 := List.all_eq_true.1 hlt e he
      simp only [hb, Bool.not_true, Bool.false_or, decide_eq_true_eq] at h5
      have hos : e.on < ops.size := by omega
      have hoe : ops[e.on]? = some ops[e.on] := by simp [hos]
      exact ih e.on h5 _ hoe (inv.closed _ _ hoe hl) h4

theorem anyI_first {n i : Nat} {oi : Oper} {v : Value} {B : Array Nat} {Q : Act → World → Prop} (hi : ops[i]? = some oi) (hsel : ∀ (j : Nat) (o : Oper) cs b, ops[j]? = some o → o.op ≠ .select cs b) (hB : ancB md ops B = true)
    (hanc : ∀ t, n ≤ t → t < ops.size → (B.getD t 0).testBit i = true) :
    ∀ (f : Nat) (listed : Array Bool) (a : Act) (w : World), Closed md ops listed → I w →
      (∀ j oj, ops[j]? = some oj → j ≠ i → listed.getD j true = false → (∀ e ∈ oj.after, Region.binds md e = true → e.on ≠ i) → oi.apart ops oj = true) →
      i ∈ Region.ready md ops listed → YV P ops I oi v a →
      anyI P md ops I n Q f (listed.setIfInBounds i true) (a.put oi.dst v) w → anyI P md ops I n Q (f + 1) listed a w := by
  intro f
  have his : i < ops.size := (Array.getElem?_eq_some_iff.1 hi).1
  induction f with
  | zero =>
    intro listed a w inv hI hfree hr hy H
    refine ⟨fun h => (by rw [h] at hr; cases hr), fun j hj => ?_⟩
    by_cases hji : j = i
    · subst hji; exact ⟨oi, hi, hy.opN hI ⟨fun _ => hI, H⟩⟩
    · have := ready_mono hj hji
      rw [H.1] at this
      cases this
  | succ f ih =>
    intro listed a w inv hI hfree hr hy H
    refine ⟨fun h => (by rw [h] at hr; cases hr), fun j hj => ?_⟩
    by_cases hji : j = i
    · subst hji; exact ⟨oi, hi, hy.opN hI ⟨fun _ => hI, H⟩⟩
    · obtain ⟨oj', hoj', h1⟩ := H.2 j (ready_mono hj hji)
      obtain ⟨hjun, oj, hoj, hall⟩ := mem_ready.1 hj
      obtain rfl : oj' = oj := Option.some.inj (hoj'.symm.trans hoj)
      have hun : listed.getD i false = false := getD_both (mem_ready.1 hr).1
      have hnot : ∀ e ∈ oj'.after, Region.binds md e = true → e.on ≠ i := fun e he hb heq => by
        have h1 := hall e he hb
        rw [heq, hun] at h1
        cases h1
      have hjn : j < n := by
        rcases Nat.lt_or_ge j n with h | h
        · exact h
        · have := anc_listed hB inv i his j oj' hoj hall (hanc j h (Array.getElem?_eq_some_iff.1 hoj).1)
          rw [hun] at this
          cases this
      have h2 := opN_put (hfree j oj' hoj hji hjun hnot) (fun cs b => hsel i oi cs b hi) (fun cs b => hsel j oj' cs b hoj) hy h1
      have hfree' : ∀ k ok, ops[k]? = some ok → k ≠ i → (listed.setIfInBounds j true).getD k true = false →
          (∀ e ∈ ok.after, Region.binds md e = true → e.on ≠ i) → oi.apart ops ok = true := fun k ok hk hki hun hno => by
        refine hfree k ok hk hki ?_ hno
        by_cases hjk : j = k
        · subst hjk; exact hjun
        · rw [getD_set_ne true hjk] at hun; exact hun
      refine ⟨oj', hoj, opN_mono (fun a' w' h3 => ⟨fun _ => h3.2.1 hjn, ih (listed.setIfInBounds j true) a' w' (inv.set hj) (h3.2.1 hjn) hfree' (ready_mono hr (Ne.symm hji)) h3.1 ?_⟩) h2⟩
      rw [Array.setIfInBounds_comm _ _ hji]
      exact h3.2.2

/-- The row of the head's operations: (k, true) floats. -/
def wpFl (P : Program) (ops : Array Oper) (I : World → Prop) (Q : Act → World → Prop) : List (Nat × Bool) → Act → World → Prop
  | [], a, w => Q a w
  | (k, true) :: rest, a, w => ∃ o v, ops[k]? = some o ∧ YV P ops I o v a ∧ wpFl P ops I Q rest (a.put o.dst v) w
  | (k, false) :: rest, a, w => ∃ o, ops[k]? = some o ∧ opN P ops o (fun a' w' => I w' ∧ wpFl P ops I Q rest a' w') a w

def walkB (md : Region.Mode) (ops : Array Oper) (n : Nat) : List (Nat × Bool) → Array Bool → Bool
  | [], listed => Region.seqB md ops (ops.size - n) n listed
  | (k, true) :: rest, listed => (Region.ready md ops listed).contains k && Region.free md ops listed k && walkB md ops n rest (listed.setIfInBounds k true)
  | (k, false) :: rest, listed => decide (Region.ready md ops listed = [k]) && walkB md ops n rest (listed.setIfInBounds k true)
def floats (n : Nat) (ops : Array Oper) (B : Array Nat) (hd : List (Nat × Bool)) : Bool := hd.all fun k => !k.2 || (List.range ops.size).all fun t => decide (t < n) || (B.getD t 0).testBit k.1
def flB (ops : Array Oper) (hd : List (Nat × Bool)) (n : Nat) : Bool :=
  Region.noSelect ops && ancB .any ops (Region.before ops) && floats n ops (Region.before ops) hd && walkB .any ops n hd (Array.replicate ops.size false)

theorem anyI_seq {n : Nat} {Q : Act → World → Prop} : ∀ (l : List Oper) (k : Nat) (listed : Array Bool) (a : Act) (w : World), (∀ j, l[j]? = ops[k + j]?) → n ≤ k →
    Region.seqB md ops l.length k listed = true → wpList P ops (Exit.then Q QF) l a w → anyI P md ops I n Q l.length listed a w
  | [], _, _, _, _, _, _, hB, h => ⟨by simpa [Region.seqB] using hB, h⟩
  | o :: l, k, listed, a, w, hl, hn, hB, h => by
    have h0 : ops[k]? = some o := by simpa using (hl 0).symm
    simp only [List.length_cons, Region.seqB, Bool.and_eq_true, decide_eq_true_eq] at hB
    refine ⟨fun h1 => (by rw [hB.1] at h1; cases h1), fun i hi => ?_⟩
    rw [hB.1] at hi
    have hik : i = k := by simpa using hi
    subst hik
    refine ⟨o, h0, opN_mono (fun a' w' h' => ⟨fun hlt => by omega, anyI_seq l (i + 1) _ a' w' (fun j => by have := hl (j + 1); simpa [Nat.add_assoc, Nat.add_comm 1 j] using this) (by omega) hB.2 h'⟩) (?_ : opN P ops o (wpList P ops (Exit.then Q QF) l) a w)⟩
    refine opN_of_list ?_
    unfold wpList at h ⊢
    split
    · rename_i hw
      rw [if_pos hw] at h
      rcases h with h | ⟨_, _, _, h⟩
      · refine .inl (Oper.wp_mono (fun _ _ h => h) ?_)
        unfold Oper.wp at *
        generalize (execOp a.eval o).run P w = r at *
        cases r with
        | ok x w' =>
          cases x <;> simp only [Oper.upon] at h ⊢ <;>
            first
              | exact h
              | exact Calls.mono h (fun e w'' he => by
                  cases e
                  · exact he
                  · exact he
                  · obtain ⟨_, _, he⟩ := he; exact he.elim)
        | halt x w' => cases x <;> simp only [Oper.upon] at h ⊢ <;> exact h
      · exact h.elim
    · rename_i hw; rw [if_neg hw] at h; exact h

theorem anyI_head {n g : Nat} {B : Array Nat} {Q : Act → World → Prop} (hsel : Region.noSelect ops = true) (hB : ancB md ops B = true) (hg : g = ops.size - n) {tl : Act → World → Prop}
    (htl : ∀ listed a w, Region.seqB md ops g n listed = true → tl a w → anyI P md ops I n Q g listed a w) :
    ∀ (hd : List (Nat × Bool)) (listed : Array Bool) (a : Act) (w : World), floats n ops B hd = true → walkB md ops n hd listed = true → Closed md ops listed → I w → wpFl P ops I tl hd a w → anyI P md ops I n Q (hd.length + g) listed a w
  | [], listed, a, w, _, hw, _, _, h => by
    simp only [List.length_nil, Nat.zero_add]
    exact htl _ _ _ (by subst hg; exact hw) h
  | (k, true) :: rest, listed, a, w, hfl, hw, inv, hI, h => by
    obtain ⟨o, v, ho, hy, h⟩ := h
    simp only [walkB, Bool.and_eq_true] at hw
    obtain ⟨⟨hr, hf⟩, hw⟩ := hw
    have hr' : k ∈ Region.ready md ops listed := by simpa using hr
    simp only [floats, List.all_cons, Bool.and_eq_true, Bool.not_true, Bool.false_or] at hfl
    have hanc : ∀ t, n ≤ t → t < ops.size → (B.getD t 0).testBit k = true := fun t h1 h2 => by
      have := List.all_eq_true.1 hfl.1 t (List.mem_range.2 h2)
      simp only [Bool.or_eq_true, decide_eq_true_eq] at this
      rcases this with this | this
      · omega
      · exact this
    have := anyI_first ho (Region.noSelect_spec hsel) hB hanc (rest.length + g) listed a w inv hI (Region.free_spec ho hf) hr' hy
      (anyI_head hsel hB hg htl rest _ _ _ hfl.2 hw (inv.set hr') hI h)
    rw [show ((k, true) :: rest).length + g = rest.length + g + 1 by simp; omega]
    exact this
  | (k, false) :: rest, listed, a, w, hfl, hw, inv, hI, h => by
    obtain ⟨o, ho, h⟩ := h
    simp only [walkB, Bool.and_eq_true, decide_eq_true_eq] at hw
    obtain ⟨hr, hw⟩ := hw
    simp only [floats, List.all_cons, Bool.and_eq_true] at hfl
    rw [show ((k, false) :: rest).length + g = rest.length + g + 1 by simp; omega]
    refine ⟨fun h1 => (by rw [hr] at h1; cases h1), fun i hi => ?_⟩
    have hi' := hi
    rw [hr] at hi
    have hik : i = k := by simpa using hi
    subst hik
    exact ⟨o, ho, opN_mono (fun a' w' h' => ⟨fun _ => h'.1, anyI_head hsel hB hg htl rest _ a' w' hfl.2 hw (inv.set hi') h'.1 h'.2⟩) h⟩

end

section
variable {P : Program} {I : World → Prop} {a : Act} {w : World} {l : List Oper}
/-- THE REGION: hd: its head, in an order of ours, each with: does it float?; n: the first of the tail, which goes as it is written. -/
theorem region {id : Nat} {Q : Exit → Act → World → Prop} (n : Nat) (hd : List (Nat × Bool)) (I : World → Prop) (hm : P.follows .mixedOrders = true) (hB : flB l.toArray hd n = true) (hl : hd.length + (l.length - n) = l.length) (hI : I w.drew)
    (h : wpFl P l.toArray I (fun a' w' => wpList P l.toArray (Exit.then (Q .normal) QF) (l.drop n) a' w') hd a w.drew) : (Code.region id l.toArray true).wp P Q a w := by
  simp only [flB, Bool.and_eq_true] at hB
  obtain ⟨⟨⟨hsel, hanc⟩, hfl⟩, hw⟩ := hB
  refine wp_region_any hm (any_of_anyI (I := I) (n := n) _ _ _ _ ?_)
  have := anyI_head (P := P) (I := I) (Q := Q .normal) (g := l.length - n) (tl := fun a' w' => wpList P l.toArray (Exit.then (Q .normal) QF) (l.drop n) a' w') hsel hanc (by simp)
    (fun listed a w hs h => by
      have := anyI_seq (P := P) (I := I) (md := .any) (n := n) (Q := Q .normal) (l.drop n) n listed a w (fun j => by simp [List.getElem?_drop]) (Nat.le_refl _) (by simpa using hs) h
      simpa using this) hd (Array.replicate l.toArray.size false) a w.drew hfl hw ⟨by simp, fun j oj _ hl => by rw [getD_replicate_false] at hl; cases hl⟩ hI h
  rw [hl] at this
  simpa using this

variable {ops : Array Oper} {Q : Act → World → Prop} {k : Nat} {rest : List (Nat × Bool)} {o : Oper} {a' : Act}
/-- An operation that floats: in every world of the kind it leads to one and the same frame. -/
theorem op (ho : ops[k]? = some o) (h : ∀ w, I w → ∀ K : Act → World → Prop, K a' w → wpList P ops (Exit.then K QF) [o] a w) (hI : I w) (hd : a'.defers = a.defers) (hn : wpFl P ops I Q rest a' w) : wpFl P ops I Q ((k, true) :: rest) a w := by
  have hv : ∃ v, a' = a.put o.dst v := by
    have := opN_of_list (h w hI (fun a1 _ => a1 = a') rfl)
    unfold opN at this
    split at this
    · unfold Oper.wp at this
      generalize (execOp a.eval o).run P w = r at *
      cases r with
      | ok n w' =>
        cases n <;> simp only [Oper.upon] at this
        case value u => exact ⟨_, this.symm⟩
        case skip => exact ⟨_, this.symm⟩
        case defer d =>
          exfalso
          rw [← this] at hd
          have hh : (({ a with defers := d :: a.defers } : Act).put o.dst undef).defers = d :: a.defers := by unfold Act.put; split <;> rfl
          rw [hh] at hd
          exact absurd (congrArg List.length hd) (by simp)
        case enter f args =>
          obtain ⟨e, w', _, hR, _⟩ := this []
          cases e with
          | returned u => exact ⟨_, hR.symm⟩
          | panicked c => exact hR.elim
          | outgrown => exact (noLets hR).elim
        case row row args =>
          obtain ⟨u, _, hR, _⟩ := this default []
          exact ⟨_, hR.symm⟩
      | halt x w' => cases x <;> simp only [Oper.upon] at this <;> exact this.elim
    · exact ⟨_, this.symm⟩
  obtain ⟨v, rfl⟩ := hv
  refine ⟨o, v, ho, ?_, hn⟩
  by_cases hw : Region.wanted o (yielded ops a.tmps) = true
  · refine .inl ⟨hw, fun w hI => ?_⟩
    have := opN_of_list (h w hI (fun a1 w1 => a1 = a.put o.dst v ∧ w1 = w) ⟨rfl, rfl⟩)
    unfold opN at this
    rw [if_pos hw] at this
    unfold Oper.wp at this
    generalize (execOp a.eval o).run P w = r at *
    cases r with
    | ok n w' =>
      cases n <;> simp only [Oper.upon] at this <;> simp only [Yd]
      case value u => exact ⟨this.2, this.1⟩
      case skip => exact ⟨this.2, this.1⟩
      case defer d =>
        have h1 := congrArg Act.defers this.1
        have hh : (({ a with defers := d :: a.defers } : Act).put o.dst undef).defers = d :: a.defers := by unfold Act.put; split <;> rfl
        rw [hh, hd] at h1
        exact absurd (congrArg List.length h1) (by simp)
      case enter f args =>
        refine this.mono fun e w'' he => ?_
        cases e with
        | returned u => exact ⟨u, rfl, he.2, he.1⟩
        | panicked c => exact he.elim
        | outgrown => exact (noLets he).elim
      case row row args => exact this.mono fun u w'' he => ⟨he.2, he.1⟩
    | halt x w' => cases x <;> simp only [Oper.upon] at this <;> exact this.elim
  · have := opN_of_list (h w hI (fun a1 w1 => a1 = a.put o.dst v ∧ w1 = w) ⟨rfl, rfl⟩)
    unfold opN at this
    rw [if_neg hw] at this
    exact .inr ⟨by simpa using hw, this.1⟩
/-- An operation in its row: the world behind it is of the kind, too. -/
theorem seq (ho : ops[k]? = some o) (h : ∀ K : Act → World → Prop, (∀ a' w', I w' → wpFl P ops I Q rest a' w' → K a' w') → wpList P ops (Exit.then K QF) [o] a w) : wpFl P ops I Q ((k, false) :: rest) a w :=
  ⟨o, ho, opN_of_list (h _ fun _ _ h1 h2 => ⟨h1, h2⟩)⟩
theorem nil (h : Q a w) : wpFl P ops I Q [] a w := h
/-- The tail, what stands behind it under a name. -/
theorem tail {Qn : Act → World → Prop} {tl : List Oper} (h : ∀ K : Act → World → Prop, (∀ a w, Qn a w → K a w) → wpList P ops (Exit.then K QF) tl a w) : wpFl P ops I (fun a' w' => wpList P ops (Exit.then Qn QF) tl a' w') [] a w := h _ fun _ _ h => h
end
theorem noUndef {p : Prop} {b : Bool} (h : some undef = some (Value.bool b)) : p := by cases h
theorem bcl {B : Nat} {W v : World} (hb : Go.RowKit.Below B W v) : (∀ b o, b < B → v.cell? ⟨b, o, none⟩ = W.cell? ⟨b, o, none⟩) ∧ (∀ b o, b < B → v.frozen? ⟨b, o, none⟩ = W.frozen? ⟨b, o, none⟩) :=
  ⟨fun b o h => hb.cell (p := ⟨b, o, none⟩) h, fun b o h => hb.frozen (p := ⟨b, o, none⟩) h⟩
end Go.Proofs.YticmfflnenoplabDoor.Flo
