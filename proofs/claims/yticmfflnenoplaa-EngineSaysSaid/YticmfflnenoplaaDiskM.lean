/- The program's disk (package disk), as plain data, and how it lies in memory. -/
import Derived.Test.YticmfflnenoplaaBase
namespace Go.Proofs.Yticmfflnenoplaa
open Go.RowKit

namespace Dk
structure Pair where
  file : ByteArray
  draft : ByteArray
  there : Bool
  drafted : Bool
structure Change where
  data : ByteArray
  move : Bool
structure St where
  kept : Pair
  now : Pair
  wait : List Change
  fuse : Int
  down : Bool
def noText : ByteArray := ⟨#[]⟩
def noPair : Pair := ⟨noText, noText, false, false⟩
def new : St := ⟨noPair, noPair, [], -1, false⟩
def apply (p : Pair) (c : Change) : Pair := match c.move with
  | true => ⟨p.draft, noText, true, false⟩
  | false => ⟨p.file, c.data, p.there, true⟩
def Pair.val (p : Pair) : Value := .agg #[.string p.file, .string p.draft, .bool p.there, .bool p.drafted]
def Change.val (c : Change) : Value := .agg #[.string c.data, .bool c.move]
def Change.cells (c : Change) : List Value := [.string c.data, .bool c.move]
def flat (l : List Change) : List Value := l.flatMap Change.cells
def cells (s : St) (wv : Value) : Array Value :=
  #[.string s.kept.file, .string s.kept.draft, .bool s.kept.there, .bool s.kept.drafted, .string s.now.file, .string s.now.draft, .bool s.now.there, .bool s.now.drafted, wv, .int .i64 s.fuse, .bool s.down]
/-- A disk of type T, its changes of type e, lies at block b. -/
structure Is (T e : TypeId) (w : World) (b : Nat) (wv : Value) (s : St) : Prop where
  blk : Blk w b T (cells s wv)
  row : w.ownsRow 0 e 2 wv s.wait.length (flat s.wait)
def Fp (b : Nat) (wv : Value) (k : Nat) : Prop := k = b ∨ wv.ownBlock = some k
/-- After an operation on the disk at b. -/
def After (T e : TypeId) (b : Nat) (wv : Value) (s' : St) (w w' : World) : Prop :=
  ∃ wv', Is T e w' b wv' s' ∧ (wv'.ownBlock = wv.ownBlock ∨ ∀ k, wv'.ownBlock = some k → w.heap.size ≤ k) ∧ Kept (Fp b wv) w w'
def stepOk (s : St) : St := { s with fuse := if 0 < s.fuse then s.fuse - 1 else s.fuse }
def stepDead (s : St) : St := { s with down := true, fuse := if s.down = true then s.fuse else -1 }
def dead (s : St) : Bool := s.down || (s.fuse == 0)
theorem Is.kept {T e : TypeId} {w w' : World} {b : Nat} {wv : Value} {s : St} {S : Nat → Prop} (h : Is T e w b wv s) (hk : Kept S w w') (hb : ¬ S b) (hw : ∀ g, wv.ownBlock = some g → ¬ S g) : Is T e w' b wv s :=
  ⟨h.blk.kept hk hb, own_kept h.row hk hw⟩
end Dk
open Dk


/-- A call returned v and left the disk at b in the state s'. -/
def OpPost (T e : TypeId) (b : Nat) (wv : Value) (w : World) (v : Value) (s' : St) (en : Ending) (w' : World) : Prop :=
  en = .returned v ∧ After T e b wv s' w w'
namespace Dk
def doS (s : St) (c : Change) : Int × St := if dead s = true then (11, stepDead s) else (0, { stepOk s with now := apply s.now c, wait := s.wait ++ [c] })
def stepS (s : St) : Int × St := if dead s = true then (11, stepDead s) else (0, stepOk s)
def writeS (s : St) (t : ByteArray) : Int × St := if 6000 < t.size then (2, s) else doS s ⟨t, false⟩
def moveS (s : St) : Int × St := if s.now.drafted = true then doS s ⟨noText, true⟩ else (6, s)
def syncS (s : St) : Int × St := if dead s = true then (11, stepDead s) else (0, { stepOk s with kept := s.now, wait := [] })
def readS (s : St) : ByteArray × Int := if s.down = true then (noText, 11) else if s.now.there = true then (s.now.file, 0) else (noText, 6)
def spoilS (s : St) (t : ByteArray) : St := if t.size ≤ 6000 then { s with kept := { s.kept with file := t, there := true }, now := { s.now with file := t, there := true } } else s
/-- The piece of the next change that is kept. -/
def tearS (p : Pair) (l : List Change) (k : Nat) (torn : Int) : Pair := match l[k]? with
  | some c => if c.move = false ∧ 0 < torn ∧ 0 < c.data.size then apply p ⟨c.data.extract 0 (min torn.toNat c.data.size), false⟩ else p
  | none => p
def lateS (s : St) (k : Nat) (torn : Int) : Pair := tearS ((s.wait.take k).foldl apply s.kept) s.wait k torn
def restartS (s : St) (k : Nat) (torn : Int) : St := ⟨lateS s k torn, lateS s k torn, [], -1, false⟩
def kOf (keep : Int) (n : Nat) : Nat := if keep < 0 then 0 else min keep.toNat n
theorem kOf_spec (keep : Int) (n : Nat) : (keep < 0 ∧ kOf keep n = 0) ∨ (keep = kOf keep n ∧ kOf keep n ≤ n) ∨ ((n : Int) < keep ∧ kOf keep n = n) := by
  unfold kOf
  split
  · exact .inl ⟨by assumption, rfl⟩
  · rcases Nat.lt_or_ge n keep.toNat with h | h
    · exact .inr (.inr ⟨by omega, by omega⟩)
    · exact .inr (.inl ⟨by omega, by omega⟩)
def armS (s : St) (n : Int) : St := { s with fuse := max n (-1) }
theorem tearS_some {p : Pair} {l : List Change} {k : Nat} {torn : Int} (hk : k < l.length) : tearS p l k torn = if l[k].move = false ∧ 0 < torn ∧ 0 < l[k].data.size then apply p ⟨l[k].data.extract 0 (min torn.toNat l[k].data.size), false⟩ else p := by
  unfold tearS
  rw [List.getElem?_eq_getElem hk]
theorem tearS_none {p : Pair} {l : List Change} {k : Nat} {torn : Int} (hk : l.length ≤ k) : tearS p l k torn = p := by
  unfold tearS
  rw [List.getElem?_eq_none hk]
theorem extract_all (t : ByteArray) : t.extract 0 t.size = t := by
  apply ByteArray.ext
  rw [ByteArray.data_extract]
  exact Array.extract_size
theorem flat_at (l : List Change) (j : Nat) (hj : j < l.length) : (flat l)[j * 2]? = some (.string l[j].data) ∧ (flat l)[j * 2 + 1]? = some (.bool l[j].move) := by
  induction l generalizing j with
  | nil => simp at hj
  | cons c l ih =>
    cases j with
    | zero => simp [flat, Change.cells]
    | succ j =>
      have := ih j (by simpa using hj)
      simp only [flat, List.flatMap_cons, Change.cells] at this ⊢
      rw [show (j + 1) * 2 = 2 + j * 2 from by omega]
      constructor
      · rw [List.getElem?_append_right (by simp)]; simpa using this.1
      · rw [List.getElem?_append_right (by simp; omega)]; simpa [show 2 + j * 2 + 1 - 2 = j * 2 + 1 from by omega] using this.2
theorem doS_ok {s : St} {c : Change} (hd : dead s = false) : doS s c = (0, { stepOk s with now := apply s.now c, wait := s.wait ++ [c] }) := by simp [doS, hd]
theorem doS_dead {s : St} {c : Change} (hd : dead s = true) : doS s c = (11, stepDead s) := by simp [doS, hd]
theorem stepS_ok {s : St} (hd : dead s = false) : stepS s = (0, stepOk s) := by simp [stepS, hd]
theorem stepS_dead {s : St} (hd : dead s = true) : stepS s = (11, stepDead s) := by simp [stepS, hd]
theorem syncS_ok {s : St} (hd : dead s = false) : syncS s = (0, { stepOk s with kept := s.now, wait := [] }) := by simp [syncS, hd]
theorem syncS_dead {s : St} (hd : dead s = true) : syncS s = (11, stepDead s) := by simp [syncS, hd]
end Dk
theorem Dk.Is.step {T e : TypeId} {w : World} {b : Nat} {wv : Value} {s s' : St} (h : Is T e w b wv s) {w' : World} (hb : Blk w' b T (cells s' wv)) (hw : s'.wait = s.wait) (hk : Kept (fun k => k = b) w w') (hne : e ≠ T) : After T e b wv s' w w' := by
  refine ⟨wv, ⟨hb, ?_⟩, .inl rfl, hk.mono fun k hk => .inl hk⟩
  rw [hw]
  exact own_kept h.row hk fun g hg he => own_blk_ne h.row h.blk hne (by rw [hg, he])

theorem Dk.Is.alloc {T e : TypeId} {w : World} {b : Nat} {wv : Value} {s : St} (h : Is T e w b wv s) (o : Obj) : Is T e (w.alloc o) b wv s :=
  h.kept ((Kept.refl (fun _ => False) w).alloc o) (fun h => h) (fun _ _ h => h)
theorem Dk.Is.own_lt {T e : TypeId} {w : World} {b : Nat} {wv : Value} {s : St} (h : Is T e w b wv s) {g : Nat} (hg : wv.ownBlock = some g) : g < w.heap.size := by
  rcases h.row.2 with ⟨rfl, _⟩ | ⟨g', cap, cur, rfl, _, hh, _⟩
  · simp [Value.ownBlock] at hg
  · obtain rfl : g' = g := by simpa [Value.ownBlock] using hg
    exact Blk.lt (t := e) (cs := cur) hh
theorem Dk.After.trans {T e : TypeId} {b : Nat} {wv wv1 : Value} {s' : St} {w w1 w2 : World} (hk : Kept (Fp b wv) w w1) (ho : wv1.ownBlock = wv.ownBlock ∨ ∀ k, wv1.ownBlock = some k → w.heap.size ≤ k) (h : After T e b wv1 s' w1 w2) : After T e b wv s' w w2 := by
  obtain ⟨wv2, hi, ho2, hk2⟩ := h
  refine ⟨wv2, hi, ?_, hk.then_ hk2 ?_⟩
  · rcases ho2 with ho2 | ho2
    · rw [ho2]; exact ho
    · exact .inr fun k hk' => Nat.le_trans hk.size (ho2 k hk')
  · rintro k hlt (rfl | hk')
    · exact .inl rfl
    · rcases ho with ho | ho
      · exact .inr (ho ▸ hk')
      · exact absurd (ho k hk') (by omega)
theorem Dk.After.same {T e : TypeId} {w : World} {b : Nat} {wv : Value} {s : St} (h : Is T e w b wv s) : After T e b wv s w w := ⟨wv, h, .inl rfl, Kept.refl _ _⟩

end Go.Proofs.Yticmfflnenoplaa
