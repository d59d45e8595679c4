/- A map that the call makes, as a function of its keys; its elements are any values. No program is named here; no statement is proved here. -/
import Derived.Maps.OwnSet
import Derived.WalkKit
import Derived.Below
namespace Go.Proofs.Yticmfflnenoplab
open Go Go.Maps

/-- Any value reads as itself. -/
def rawElem (v : Value) : Option (DataW Value × List MemPlace) := some (.held v, [])

/-- Block b is a map of at most n entries: at each key what f says. -/
def MapF {α : Type} (w : World) (P : Program) (k : TypeId) (κ : α → Lit) (b n : Nat) (f : α → Option Value) : Prop :=
  ∃ D, w.ownsMap P k rawElem b n D ∧ ∀ x, (f x = none → has D (κ x) = false) ∧ ∀ v, f x = some v → has D (κ x) = true ∧ ∀ z, D.atKey (κ x) z = .held v

section
variable {α : Type} {P : Program} {k e t : TypeId} {κ : α → Lit} {w w' : World} {b n : Nat} {f : α → Option Value}
theorem MapF.made (w : World) (P : Program) (k : TypeId) (κ : α → Lit) : MapF (w.alloc (.map #[] 0)) P k κ w.heap.size 0 (fun _ => none) :=
  ⟨.map [], World.ownsMap_made _ _ _ _, fun _ => ⟨fun _ => rfl, fun _ h => by cases h⟩⟩
theorem MapF.lt (h : MapF w P k κ b n f) : b < w.heap.size := by
  obtain ⟨D, h, _⟩ := h
  exact h.lt
theorem MapF.kept {row : Option Nat} (h : MapF w P k κ b n f) (hg : w.grownBy w' row) (hne : some b ≠ row) : MapF w' P k κ b n f := by
  obtain ⟨D, h, r⟩ := h
  exact ⟨D, h.kept hg hne, r⟩
theorem MapF.alloc (h : MapF w P k κ b n f) (o : Obj) : MapF (w.alloc o) P k κ b n f := by
  obtain ⟨D, h, r⟩ := h
  exact ⟨D, h.alloc o, r⟩
theorem MapF.drew (h : MapF w P k κ b n f) : MapF w.drew P k κ b n f := h
theorem MapF.setCell (h : MapF w P k κ b n f) {a : Addr} (ha : b ≠ a.block) (u : Value) : MapF (w.setCell a u) P k κ b n f := by
  obtain ⟨D, h, r⟩ := h
  exact ⟨D, h.setCell ha u, r⟩
theorem MapF.same (h : MapF w P k κ b n f) (hb : w'.heap[b]? = w.heap[b]?) : MapF w' P k κ b n f := by
  obtain ⟨D, ⟨es, clock, h1, h2⟩, r⟩ := h
  exact ⟨D, ⟨es, clock, hb.trans h1, h2⟩, r⟩
theorem MapF.below {B : Nat} (h : MapF w P k κ b n f) (hb : RowKit.Below B w w') (hB : b < B) : MapF w' P k κ b n f := h.same (hb.block b hB)
theorem MapF.mono (h : MapF w P k κ b n f) {m : Nat} (hm : n ≤ m) : MapF w P k κ b m f := by
  obtain ⟨D, h, r⟩ := h
  exact ⟨D, h.mono hm, r⟩
theorem MapF.congr (h : MapF w P k κ b n f) {g : α → Option Value} (hg : ∀ x, g x = f x) : MapF w P k κ b n g := by
  obtain ⟨D, h, r⟩ := h
  exact ⟨D, h, fun x => by rw [hg]; exact r x⟩
theorem MapF.look (h : MapF w P k κ b n f) (K : Keyed P k) (ht : P.underlying t = some (.map k e)) {z : Value} (hz : (zeroValue e).run P w = .ok z w) {key : Value} {x : α} (hkey : keyOf P k key = some (κ x)) :
    (Instr.lookup t (.map (some b)) key true).run P w = .ok (.tuple #[(f x).getD z, .bool (f x).isSome]) w := by
  obtain ⟨D, h, r⟩ := h
  obtain ⟨v, ps, hrun, hv⟩ := h.look_ok K ht hz (R := rawElem) rfl hkey
  rw [hrun]
  unfold rawElem at hv
  simp only [Option.some.injEq, Prod.mk.injEq] at hv
  obtain ⟨r1, r2⟩ := r x
  cases hf : f x with
  | none =>
    have hn := r1 hf
    rw [atKey_of_not_has hn] at hv
    have : v = z := by have := hv.1; injection this
    rw [this, hn]
    rfl
  | some u =>
    obtain ⟨h1, h2⟩ := r2 u hf
    rw [h2] at hv
    have : v = u := by have := hv.1; injection this
    rw [this, h1]
    rfl
theorem MapF.look1 (h : MapF w P k κ b n f) (K : Keyed P k) (ht : P.underlying t = some (.map k e)) {z : Value} (hz : (zeroValue e).run P w = .ok z w) {key : Value} {x : α} (hkey : keyOf P k key = some (κ x)) :
    (Instr.lookup t (.map (some b)) key false).run P w = .ok ((f x).getD z) w := by
  obtain ⟨D, h, r⟩ := h
  obtain ⟨v, ps, hrun, hv⟩ := h.lookup K ht hz (R := rawElem) rfl hkey
  rw [hrun]
  unfold rawElem at hv
  simp only [Option.some.injEq, Prod.mk.injEq] at hv
  obtain ⟨r1, r2⟩ := r x
  cases hf : f x with
  | none =>
    have hn := r1 hf
    rw [atKey_of_not_has hn] at hv
    have : v = z := by have := hv.1; injection this
    rw [this]
    rfl
  | some u =>
    obtain ⟨h1, h2⟩ := r2 u hf
    rw [h2] at hv
    have : v = u := by have := hv.1; injection this
    rw [this]
    rfl
theorem MapF.put {g : α → Option Value} {v : Value} {y : α} {D : DataW Value} (hm : IsMap D) (r : ∀ x, (f x = none → has D (κ x) = false) ∧ ∀ v, f x = some v → has D (κ x) = true ∧ ∀ z, D.atKey (κ x) z = .held v)
    (hk : WideAt.IsKeyLit (κ y)) (hi : ∀ x, κ x = κ y → x = y) (h1 : g y = some v) (h2 : ∀ x, x ≠ y → g x = f x) :
    ∀ x, (g x = none → has (D.put (κ y) (.held v)) (κ x) = false) ∧ ∀ u, g x = some u → has (D.put (κ y) (.held v)) (κ x) = true ∧ ∀ z, (D.put (κ y) (.held v)).atKey (κ x) z = .held u := by
  intro x
  by_cases hx : κ x = κ y
  · obtain rfl := hi x hx
    rw [h1]
    refine ⟨(fun h => by cases h), fun u hu => ?_⟩
    obtain rfl : v = u := by simpa using hu
    exact ⟨has_put_same hm hk _, fun z => atKey_put_same hm hk _ z⟩
  · have hne : x ≠ y := fun h => hx (by rw [h])
    rw [h2 x hne, has_put_other hx]
    obtain ⟨r1, r2⟩ := r x
    exact ⟨r1, fun u hu => ⟨(r2 u hu).1, fun z => by rw [atKey_put_other hx]; exact (r2 u hu).2 z⟩⟩
end
section
variable {α : Type} {P : Program} {k e t : TypeId} {κ : α → Lit} (w : World) {b n : Nat} {f : α → Option Value} {ops : Array Oper} {rest : List Oper} {o : Oper} {a : Act} {Q : Exit → Act → World → Prop}
theorem wpList_mapF_ok (hg : o.guard = none) (m x : Operand) (t : TypeId) (hop : o.op = Op.lookup t m x true) (k e : TypeId) (K : Keyed P k) (ht : P.underlying t = some (.map k e)) {z : Value} (hz : (zeroValue e).run P w = .ok z w)
    (hm : a.eval m = .map (some b)) (hown : MapF w P k κ b n f) (key : Value) (y : α) (hx : a.eval x = key) (hkey : keyOf P k key = some (κ y))
    (hK : wpList P ops Q rest (a.put o.dst (.tuple #[(f y).getD z, .bool (f y).isSome])) w) :
    wpList P ops Q (o :: rest) a w := by
  refine wpList_plain hg fun K' hK' => ?_
  have hrun := hown.look K ht hz hkey
  unfold Oper.wp
  simp [execOp, hop, hm, hx, hrun, Result.andThen]
  exact hK' _ _ hK
theorem wpList_mapF (hg : o.guard = none) (m x : Operand) (t : TypeId) (hop : o.op = Op.lookup t m x false) (k e : TypeId) (K : Keyed P k) (ht : P.underlying t = some (.map k e)) {z : Value} (hz : (zeroValue e).run P w = .ok z w)
    (hm : a.eval m = .map (some b)) (hown : MapF w P k κ b n f) (key : Value) (y : α) (hx : a.eval x = key) (hkey : keyOf P k key = some (κ y))
    (hK : wpList P ops Q rest (a.put o.dst ((f y).getD z)) w) :
    wpList P ops Q (o :: rest) a w := by
  refine wpList_plain hg fun K' hK' => ?_
  have hrun := hown.look1 K ht hz hkey
  unfold Oper.wp
  simp [execOp, hop, hm, hx, hrun, Result.andThen]
  exact hK' _ _ hK
theorem wpList_mapF_put (hg : o.guard = none) (m x v : Operand) (t : TypeId) (hop : o.op = Op.mapUpdate t m x v) (k e : TypeId) (K : Keyed P k) (ht : P.underlying t = some (.map k e))
    (hm : a.eval m = .map (some b)) (hown : MapF w P k κ b n f) (hn : n < maxLen) (key val : Value) (y : α) (hx : a.eval x = key) (hv : a.eval v = val) (hkey : keyOf P k key = some (κ y)) (hk : WideAt.IsKeyLit (κ y)) (hi : ∀ x, κ x = κ y → x = y)
    (g : α → Option Value) (h1 : g y = some val) (h2 : ∀ x, x ≠ y → g x = f x)
    (hK : ∀ w', MapF w' P k κ b (n + 1) g → w.grownBy w' (some b) → w'.heap.size = w.heap.size → wpList P ops Q rest (a.put o.dst undef) w') :
    wpList P ops Q (o :: rest) a w := by
  obtain ⟨D, hown, r⟩ := hown
  refine wpList_mapUpdate_in w hg m x v t hop k e K ht rawElem b n D hm hown hn key val (κ y) hx hv hkey (.held val) [] rfl fun w' h3 h4 => hK w' ⟨_, h3, MapF.put hown.isMap r hk hi h1 h2⟩ h4.grown ?_
  obtain ⟨es, clock, es', clock', _, rfl⟩ := h4
  simp [Go.ChangeMaps.setBlock]
end
end Go.Proofs.Yticmfflnenoplab
