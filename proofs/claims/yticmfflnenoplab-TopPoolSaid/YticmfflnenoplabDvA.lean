/- Devices as plain data, and the pool in memory. No statement is proved here. -/
import Derived.Test.YticmfflnenoplabQosB
import Derived.Test.YticmfflnenoplabSl
import Derived.Laws.OwnMore
namespace Go.Proofs.Yticmfflnenoplab
open Go.RowKit Go.Deep
namespace Dv
structure Dev where
  kind : ByteArray
  node : Int
  sick : Bool
def Dev.cells (d : Dev) : List Value := [.string d.kind, .int .i64 d.node, .bool d.sick]
def flatD (l : List Dev) : List Value := l.flatMap Dev.cells
def boolsV (u : List Bool) : List Value := u.map Value.bool
/-- Is it of the kind, and well? -/
def hit (k : ByteArray) (d : Dev) : Bool := (d.kind.toList == k.toList) && !d.sick
def devF : List Dev → Int
  | [] => 0
  | d :: l => if Qo.nameMay d.kind = false then 3 else if d.node < 0 ∨ 3 < d.node then 1 else devF l
def newF (l : List Dev) : Int := if 16 < l.length then 2 else devF l
def fineD (d : Dev) : Prop := Qo.nameMay d.kind = true ∧ 0 ≤ d.node ∧ d.node ≤ 3
theorem devF_skip (l : List Dev) (k : Nat) (hk : k ≤ l.length) (h : ∀ j (hj : j < l.length), j < k → fineD l[j]) : devF l = devF (l.drop k) := by
  induction k generalizing l with
  | zero => rfl
  | succ k ih =>
    cases l with
    | nil => simp at hk
    | cons d l =>
      obtain ⟨h1, h2, h3⟩ := h 0 (by simp) (by omega)
      simp only [List.getElem_cons_zero] at h1 h2 h3
      rw [List.drop_succ_cons, ← ih l (by simpa using hk) (fun j hj hjk => h (j + 1) (by simp; omega) (by omega))]
      simp only [devF, h1]
      rw [if_neg (by simp), if_neg (by omega)]
theorem devF_name (l : List Dev) (k : Nat) (hk : k < l.length) (h : ∀ j (hj : j < l.length), j < k → fineD l[j]) (hn : Qo.nameMay l[k].kind = false) : devF l = 3 := by
  rw [devF_skip l k (by omega) h, List.drop_eq_getElem_cons hk]
  simp [devF, hn]
theorem devF_node (l : List Dev) (k : Nat) (hk : k < l.length) (h : ∀ j (hj : j < l.length), j < k → fineD l[j]) (hn : Qo.nameMay l[k].kind = true) (hb : l[k].node < 0 ∨ 3 < l[k].node) : devF l = 1 := by
  rw [devF_skip l k (by omega) h, List.drop_eq_getElem_cons hk]
  simp only [devF, hn]
  rw [if_neg (by simp), if_pos hb]
theorem devF_ok (l : List Dev) (h : ∀ j (hj : j < l.length), fineD l[j]) : devF l = 0 := by
  rw [devF_skip l l.length (by omega) (fun j hj _ => h j hj)]
  simp [devF]
theorem devF_fine : ∀ (l : List Dev), devF l = 0 → ∀ d ∈ l, fineD d
  | [], _, d, hd => by cases hd
  | x :: l, h, d, hd => by
    simp only [devF] at h
    split at h
    · cases h
    · rename_i h1
      split at h
      · cases h
      · rename_i h2
        rcases List.mem_cons.1 hd with rfl | hd
        · exact ⟨by simpa using h1, by omega, by omega⟩
        · exact devF_fine l h d hd
theorem newF_fine {l : List Dev} (h : newF l = 0) : l.length ≤ 16 ∧ ∀ d ∈ l, fineD d := by
  unfold newF at h
  split at h
  · cases h
  · exact ⟨by omega, devF_fine l h⟩
theorem flatD_len (l : List Dev) : (flatD l).length = l.length * 3 := by
  induction l with
  | nil => rfl
  | cons r l ih => simp only [flatD, List.flatMap_cons, List.length_append, List.length_cons] at ih ⊢; rw [ih]; simp [Dev.cells]; omega
theorem flatD_one (l : List Dev) : ∀ u ∈ flatD l, u.oneCell' = true := by
  intro u hu
  obtain ⟨r, _, hr⟩ := List.mem_flatMap.1 hu
  simp [Dev.cells] at hr
  rcases hr with rfl | rfl | rfl <;> rfl
theorem flatD_at (l : List Dev) (i : Nat) (hi : i < l.length) (j : Nat) (hj : j < 3) : (flatD l)[i * 3 + j]? = (Dev.cells l[i])[j]? :=
  flatMap_at (C := 3) l (fun _ _ => rfl) i hi j hj
theorem boolsV_at (u : List Bool) (i : Nat) (hi : i < u.length) : (boolsV u)[i]? = some (.bool u[i]) := by
  unfold boolsV
  rw [List.getElem?_map, List.getElem?_eq_getElem hi]
  rfl
theorem boolsV_set (u : List Bool) (i : Nat) (b : Bool) : (boolsV u).set i (.bool b) = boolsV (u.set i b) := by
  unfold boolsV
  rw [List.map_set]
theorem boolsV_len (u : List Bool) : (boolsV u).length = u.length * 1 := by simp [boolsV]
/-- A device as it comes in. -/
def RDev (cs : List Value) (d : Dev) : Prop := cs = d.cells ∧ d.kind.size ≤ maxLen ∧ -9223372036854775808 ≤ d.node ∧ d.node ≤ 9223372036854775807
/-- Devices in a row of the call's own (the pool's, or the reference's). -/
structure Row (w : World) (base : Nat) (v : Value) (l : List Dev) : Prop where
  row : w.ownsRow base 76 3 v l.length (flatD l)
  many : l.length ≤ 16
  fine : ∀ d ∈ l, fineD d
  size : ∀ d ∈ l, d.kind.size ≤ maxLen
/-- The pool at block bp. -/
structure Is (w : World) (base bp : Nat) (vl vu : Value) (l : List Dev) (u : List Bool) : Prop where
  blk : Blk w bp 112 #[vl, vu]
  rl : Row w base vl l
  ru : w.ownsRow base 4 1 vu l.length (boolsV u)
  len : u.length = l.length
section
variable {w w' : World} {base bp : Nat} {vl vu v : Value} {l : List Dev} {u : List Bool} {S : Nat → Prop}
theorem Row.kept (h : Row w base v l) (hk : Kept S w w') (hs : ∀ g, v.ownBlock = some g → ¬ S g) : Row w' base v l := ⟨own_kept h.row hk hs, h.many, h.fine, h.size⟩
theorem Row.below (h : Row w base v l) (hb : Below w.heap.size w w') : Row w' base v l := h.kept (S := fun _ => False) (Kept.of_below hb) (fun _ _ h => h)
theorem Is.kept (h : Is w base bp vl vu l u) (hk : Kept S w w') (hb : ¬ S bp) (h1 : ∀ g, vl.ownBlock = some g → ¬ S g) (h2 : ∀ g, vu.ownBlock = some g → ¬ S g) : Is w' base bp vl vu l u :=
  ⟨h.blk.kept hk hb, h.rl.kept hk h1, own_kept h.ru hk h2, h.len⟩
theorem Is.below (h : Is w base bp vl vu l u) (hb : Below w.heap.size w w') : Is w' base bp vl vu l u :=
  h.kept (S := fun _ => False) (Kept.of_below hb) (fun h => h) (fun _ _ h => h) (fun _ _ h => h)
/-- The cells of a device in its row. -/
theorem Row.cell {A : Option Addr} {n cap : Nat} (h : Row w base (.slice A n cap) l) {i : Nat} (hi : i < l.length) :
    ∃ g, A = some ⟨g, 0, none⟩ ∧ g < w.heap.size ∧ w.cell? ⟨g, i * 3, none⟩ = some (.string l[i].kind) ∧ w.cell? ⟨g, i * 3 + 1, none⟩ = some (.int .i64 l[i].node) ∧ w.cell? ⟨g, i * 3 + 2, none⟩ = some (.bool l[i].sick) := by
  obtain ⟨A', c', he, _, _, h3⟩ := own_form h.row
  simp only [Value.slice.injEq] at he
  obtain ⟨rfl, rfl, rfl⟩ := he
  obtain ⟨g, rfl, hg, _⟩ := h3 (by omega)
  exact ⟨g, rfl, hg, (h.row.cellAt (i * 3 + 0) (by omega)).trans (flatD_at l i hi 0 (by omega)), (h.row.cellAt (i * 3 + 1) (by omega)).trans (flatD_at l i hi 1 (by omega)), (h.row.cellAt (i * 3 + 2) (by omega)).trans (flatD_at l i hi 2 (by omega))⟩
end
end Dv
theorem devT : ElemT Try.prog 70 76 (.agg #[.string ⟨#[]⟩, .int .i64 0, .bool false]) 3 32 := ⟨Try.underlying70, by kernel_rfl, rfl, by omega⟩
theorem dev_own_kept {w w' : World} {base : Nat} {e : TypeId} {size n : Nat} {v : Value} {xs : List Value} (h : w.ownsRow base e size v n xs) (hb : Below w.heap.size w w') : w'.ownsRow base e size v n xs := own_below h hb
end Go.Proofs.Yticmfflnenoplab
