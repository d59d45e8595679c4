/- Both disks side by side: what a call on the one leaves of the other. -/
import Derived.Test.YticmfflnenoplaaDiskZ
import Derived.Test.YticmfflnenoplaaLight
namespace Go.Proofs.Yticmfflnenoplaa
open Go.RowKit Dk Da

theorem own_own_ne {w : World} {base base' : Nat} {e e' : TypeId} {size size' n n' : Nat} {v v' : Value} {xs xs' : List Value} (h : w.ownsRow base e size v n xs) (h' : w.ownsRow base' e' size' v' n' xs') (hne : e ≠ e') {g : Nat} (hg : v.ownBlock = some g) : v'.ownBlock ≠ some g := by
  intro hg'
  rcases h.2 with ⟨rfl, _⟩ | ⟨k, cap, cur, rfl, _, hh, _⟩
  · simp [Value.ownBlock] at hg
  · rcases h'.2 with ⟨rfl, _⟩ | ⟨k', cap', cur', rfl, _, hh', _⟩
    · simp [Value.ownBlock] at hg'
    · obtain rfl : k = g := by simpa [Value.ownBlock] using hg
      obtain rfl : k' = k := by simpa [Value.ownBlock] using hg'
      exact Blk.ne_ (t := e) (t' := e') hh hh' hne rfl

abbrev DT := 160
abbrev DE := 165
abbrev RT := 49
abbrev RE := 168

/-- The program's disk at bd in the state s, the reference's at bm in the state r; both made since the world w0. -/
def Both (w0 w : World) (bd bm : Nat) (s r : St) : Prop :=
  ∃ wv wv', Is DT DE w bd wv s ∧ Is RT RE w bm wv' r ∧ w0.heap.size ≤ bd ∧ w0.heap.size ≤ bm ∧
    (∀ g, wv.ownBlock = some g → w0.heap.size ≤ g) ∧ (∀ g, wv'.ownBlock = some g → w0.heap.size ≤ g) ∧ Below w0.heap.size w0 w
/-- No act's variable has turned. -/
def ActsStay (w w' : World) : Prop := ∀ g cs, Blk w g 36 cs → Blk w' g 36 cs
def BothPost (w0 w : World) (bd bm : Nat) (v : Value) (s r : St) (e : Ending) (w' : World) : Prop :=
  e = .returned v ∧ Both w0 w' bd bm s r ∧ ActsStay w w' ∧ w.heap.size ≤ w'.heap.size

theorem Both.ofP {w0 w w' : World} {bd bm : Nat} {wv wv' : Value} {s s' r : St} (hd : Is DT DE w bd wv s) (hm : Is RT RE w bm wv' r) (hbd : w0.heap.size ≤ bd) (hbm : w0.heap.size ≤ bm)
    (hw : ∀ g, wv.ownBlock = some g → w0.heap.size ≤ g) (hw' : ∀ g, wv'.ownBlock = some g → w0.heap.size ≤ g) (hb : Below w0.heap.size w0 w) (ha : After DT DE bd wv s' w w') : Both w0 w' bd bm s' r ∧ ActsStay w w' ∧ w.heap.size ≤ w'.heap.size := by
  obtain ⟨wv1, h1, ho, hk⟩ := ha
  refine ⟨⟨wv1, wv', h1, hm.kept hk ?_ ?_, hbd, hbm, ?_, hw', hb.trans ((hk.below hb.size ?_))⟩, ?_, hk.size⟩
  · rintro (x | x)
    · exact Blk.ne_ hm.blk hd.blk (by decide) x
    · exact own_blk_ne hd.row hm.blk (by decide) x
  · rintro g hg (x | x)
    · exact own_blk_ne hm.row hd.blk (by decide) (x ▸ hg)
    · exact own_own_ne hd.row hm.row (by decide) x hg
  · intro g hg
    rcases ho with ho | ho
    · exact hw g (ho ▸ hg)
    · exact Nat.le_trans hb.size (ho g hg)
  · rintro k hk' (x | x)
    · omega
    · have := hw k x; omega
  · intro g cs hg
    refine hg.kept hk ?_
    rintro (x | x)
    · exact Blk.ne_ hg hd.blk (by decide) x
    · exact own_blk_ne hd.row hg (by decide) x
theorem Both.ofR {w0 w w' : World} {bd bm : Nat} {wv wv' : Value} {s r' r : St} (hd : Is DT DE w bd wv s) (hm : Is RT RE w bm wv' r) (hbd : w0.heap.size ≤ bd) (hbm : w0.heap.size ≤ bm)
    (hw : ∀ g, wv.ownBlock = some g → w0.heap.size ≤ g) (hw' : ∀ g, wv'.ownBlock = some g → w0.heap.size ≤ g) (hb : Below w0.heap.size w0 w) (ha : After RT RE bm wv' r' w w') : Both w0 w' bd bm s r' ∧ ActsStay w w' ∧ w.heap.size ≤ w'.heap.size := by
  obtain ⟨wv1, h1, ho, hk⟩ := ha
  refine ⟨⟨wv, wv1, hd.kept hk ?_ ?_, h1, hbd, hbm, hw, ?_, hb.trans ((hk.below hb.size ?_))⟩, ?_, hk.size⟩
  · rintro (x | x)
    · exact Blk.ne_ hd.blk hm.blk (by decide) x
    · exact own_blk_ne hm.row hd.blk (by decide) x
  · rintro g hg (x | x)
    · exact own_blk_ne hd.row hm.blk (by decide) (x ▸ hg)
    · exact own_own_ne hm.row hd.row (by decide) x hg
  · intro g hg
    rcases ho with ho | ho
    · exact hw' g (ho ▸ hg)
    · exact Nat.le_trans hb.size (ho g hg)
  · rintro k hk' (x | x)
    · omega
    · have := hw' k x; omega
  · intro g cs hg
    refine hg.kept hk ?_
    rintro (x | x)
    · exact Blk.ne_ hg hm.blk (by decide) x
    · exact own_blk_ne hm.row hg (by decide) x

theorem Both.callP {w0 w : World} {bd bm : Nat} {s s' r : St} {f : FuncId} {args : Array Value} {v : Value} (h : Both w0 w bd bm s r)
    (c : ∀ wv, Is DT DE w bd wv s → Calls Try.prog f args w (OpPost DT DE bd wv w v s')) : Calls Try.prog f args w (BothPost w0 w bd bm v s' r) := by
  obtain ⟨wv, wv', h1, h2, h3, h4, h5, h6, h7⟩ := h
  exact (c wv h1).mono fun e w' ⟨he, ha⟩ => ⟨he, Both.ofP h1 h2 h3 h4 h5 h6 h7 ha⟩
theorem Both.callR {w0 w : World} {bd bm : Nat} {s r r' : St} {f : FuncId} {args : Array Value} {v : Value} (h : Both w0 w bd bm s r)
    (c : ∀ wv, Is RT RE w bm wv r → Calls Try.prog f args w (OpPost RT RE bm wv w v r')) : Calls Try.prog f args w (BothPost w0 w bd bm v s r') := by
  obtain ⟨wv, wv', h1, h2, h3, h4, h5, h6, h7⟩ := h
  exact (c wv' h2).mono fun e w' ⟨he, ha⟩ => ⟨he, Both.ofR h1 h2 h3 h4 h5 h6 h7 ha⟩
theorem Both.alloc {w0 w : World} {bd bm : Nat} {s r : St} (h : Both w0 w bd bm s r) (o : Obj) : Both w0 (w.alloc o) bd bm s r := by
  obtain ⟨wv, wv', h1, h2, h3, h4, h5, h6, h7⟩ := h
  exact ⟨wv, wv', h1.alloc o, h2.alloc o, h3, h4, h5, h6, h7.alloc h7.size o⟩
theorem Both.drew {w0 w : World} {bd bm : Nat} {s r : St} (h : Both w0 w bd bm s r) : Both w0 w.drew bd bm s r := by
  obtain ⟨wv, wv', h1, h2, h3, h4, h5, h6, h7⟩ := h
  exact ⟨wv, wv', ⟨h1.blk, h1.row⟩, ⟨h2.blk, h2.row⟩, h3, h4, h5, h6, h7.drew⟩
theorem Both.below {w0 w : World} {bd bm : Nat} {s r : St} (h : Both w0 w bd bm s r) : Below w0.heap.size w0 w := by
  obtain ⟨wv, wv', h1, h2, h3, h4, h5, h6, h7⟩ := h
  exact h7
theorem ActsStay.trans {a b c : World} (h : ActsStay a b) (k : ActsStay b c) : ActsStay a c := fun g cs hg => k g cs (h g cs hg)
theorem ActsStay.drew (w : World) : ActsStay w w.drew := fun _ _ h => h

/-- A state in which no number is out of bounds. -/
structure Fine (k : Nat) (s : St) : Prop where
  f1 : -1 ≤ s.fuse
  f2 : s.fuse ≤ 9223372036854775807
  f3 : s.wait.length ≤ k
  f4 : ∀ c ∈ s.wait, c.data.size ≤ 6000
theorem Fine.new : Fine 0 Dk.new := ⟨by simp [Dk.new], by simp [Dk.new], by simp [Dk.new], by simp [Dk.new]⟩
theorem Fine.more {k k' : Nat} {s : St} (h : Fine k s) (hk : k ≤ k') : Fine k' s := ⟨h.f1, h.f2, Nat.le_trans h.f3 hk, h.f4⟩
theorem Fine.stepOk {k : Nat} {s : St} (h : Fine k s) : Fine k (Dk.stepOk s) := by
  refine ⟨?_, ?_, h.f3, h.f4⟩
  all_goals
    have h1 := h.f1
    have h2 := h.f2
    simp only [Dk.stepOk]
    split <;> omega
theorem Fine.stepDead {k : Nat} {s : St} (h : Fine k s) : Fine k (Dk.stepDead s) := by
  refine ⟨?_, ?_, h.f3, h.f4⟩
  all_goals
    have h1 := h.f1
    have h2 := h.f2
    simp only [Dk.stepDead]
    split <;> omega
theorem Fine.doS {k : Nat} {s : St} (h : Fine k s) {c : Change} (hc : c.data.size ≤ 6000) : Fine (k + 1) (Dk.doS s c).2 := by
  unfold Dk.doS
  split
  · exact h.stepDead.more (by omega)
  · have := h.stepOk
    refine ⟨this.f1, this.f2, ?_, ?_⟩
    · have := h.f3
      simp; omega
    · intro x hx
      simp only [List.mem_append, List.mem_singleton] at hx
      rcases hx with hx | rfl
      · exact h.f4 x hx
      · exact hc
theorem Fine.writeS {k : Nat} {s : St} (h : Fine k s) (t : ByteArray) : Fine (k + 1) (Dk.writeS s t).2 := by
  unfold Dk.writeS
  split
  · exact h.more (by omega)
  · exact h.doS (by simp; omega)
theorem Fine.moveS {k : Nat} {s : St} (h : Fine k s) : Fine (k + 1) (Dk.moveS s).2 := by
  unfold Dk.moveS
  split
  · exact h.doS (by decide)
  · exact h.more (by omega)
theorem Fine.syncS {k : Nat} {s : St} (h : Fine k s) : Fine (k + 1) (Dk.syncS s).2 := by
  unfold Dk.syncS
  split
  · exact h.stepDead.more (by omega)
  · have := h.stepOk
    exact ⟨this.f1, this.f2, by simp, by simp⟩
theorem Fine.stepS {k : Nat} {s : St} (h : Fine k s) : Fine (k + 1) (Dk.stepS s).2 := by
  unfold Dk.stepS
  split
  · exact h.stepDead.more (by omega)
  · exact h.stepOk.more (by omega)
theorem Fine.armS {k : Nat} {s : St} (h : Fine k s) {n : Int} (hn : n ≤ 9223372036854775807) : Fine (k + 1) (Dk.armS s n) :=
  ⟨by simp only [Dk.armS]; omega, by simp only [Dk.armS]; omega, Nat.le_trans h.f3 (by omega), h.f4⟩
theorem Fine.spoilS {k : Nat} {s : St} (h : Fine k s) (t : ByteArray) : Fine (k + 1) (Dk.spoilS s t) := by
  unfold Dk.spoilS
  split
  · exact ⟨h.f1, h.f2, Nat.le_trans h.f3 (by omega), h.f4⟩
  · exact h.more (by omega)
theorem Fine.restartS {k : Nat} {s : St} (j : Nat) (torn : Int) : Fine (k + 1) (Dk.restartS s j torn) := ⟨by simp [Dk.restartS], by simp [Dk.restartS], by simp [Dk.restartS], by simp [Dk.restartS]⟩
theorem nums_ok (s : St) (t : ByteArray) : 0 ≤ (Dk.writeS s t).1 ∧ 0 ≤ (Dk.moveS s).1 ∧ 0 ≤ (Dk.syncS s).1 ∧ 0 ≤ (Dk.stepS s).1 ∧ 0 ≤ (Dk.readS s).2 := by
  refine ⟨?_, ?_, ?_, ?_, ?_⟩
  · simp only [Dk.writeS, Dk.doS]; repeat' split
    all_goals simp
  · simp only [Dk.moveS, Dk.doS]; repeat' split
    all_goals simp
  · simp only [Dk.syncS]; repeat' split
    all_goals simp
  · simp only [Dk.stepS]; repeat' split
    all_goals simp
  · simp only [Dk.readS]; repeat' split
    all_goals simp
end Go.Proofs.Yticmfflnenoplaa
