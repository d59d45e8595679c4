/- Texts laid together: Base, DiskM, DiskP, DiskQ, DiskX, DiskA, DiskF. No statement is proved here. -/
import Derived.Test.YticmfflnenoplacGreatDoorChecked
import Derived.WalkKit
import Derived.WalkLawsBesides
import Derived.WalkSpells
import Derived.Below
import Derived.Laws.OwnMore
import Derived.Laws.Rows
import Derived.Deep.AppendLies
import Derived.Deep.Draws
import Derived.Deep.OwnRows
import Derived.Deep.RegionHeld3
import Derived.Deep.QuietTactic
import Derived.BigQuiet
import Derived.Maps.AppendAt
import Derived.Lib.Hide
import Derived.Deep.RegionWith
import Derived.Deep.RegionLaw
import Derived.Deep.DeepCutAuto
import Derived.Deep.LoopGhost
import Derived.StillTailTactics
namespace Go.Proofs.YticmfflnenoplacGreatDoor
open Go.RowKit

/-- A block that is known whole. -/
def Blk (w : World) (g : Nat) (t : TypeId) (cs : Array Value) : Prop := w.heap[g]? = some (.cells cs t (0, 0))

section
variable {w w' : World} {g : Nat} {t : TypeId} {cs : Array Value}
theorem Blk.lt (h : Blk w g t cs) : g < w.heap.size := by
  rcases Nat.lt_or_ge g w.heap.size with hlt | hge
  · exact hlt
  · unfold Blk at h; rw [Array.getElem?_eq_none hge] at h; cases h
theorem Blk.cell (h : Blk w g t cs) (i : Nat) : w.cell? ⟨g, i, none⟩ = cs[i]? := cell_of_row w g i cs t (0, 0) h
theorem Blk.cells (h : Blk w g t cs) : ∀ i, w.cell? ⟨g, i, none⟩ = cs[i]? := h.cell
theorem Blk.frozen (h : Blk w g t cs) (i : Nat) : w.frozen? ⟨g, i, none⟩ = false := by
  unfold Blk at h
  simp [World.frozen?, h]
theorem Blk.frozens (h : Blk w g t cs) : ∀ i, w.frozen? ⟨g, i, none⟩ = false := h.frozen
theorem Blk.new (w : World) (t : TypeId) (cs : Array Value) : Blk (w.alloc (.cells cs t)) w.heap.size t cs := heap_alloc_new w _
theorem Blk.drew (h : Blk w g t cs) : Blk w.drew g t cs := h
theorem Blk.drewN (h : Blk w g t cs) (n : Nat) : Blk (w.drewN n) g t cs := h
theorem Blk.alloc (h : Blk w g t cs) (o : Obj) : Blk (w.alloc o) g t cs := (Below.heap_alloc w o g h.lt).trans h
theorem Blk.set_ (h : Blk w g t cs) (i : Nat) (u : Value) : Blk (w.setCell ⟨g, i, none⟩ u) g t (cs.setIfInBounds i u) := by
  unfold Blk at h ⊢
  simp [World.setCell, Array.getElem?_modify, h]
theorem Blk.cast {cs' : Array Value} (h : Blk w g t cs) (e : cs = cs') : Blk w g t cs' := e ▸ h
theorem Blk.far (h : Blk w g t cs) {p : Addr} (hp : g ≠ p.block) (u : Value) : Blk (w.setCell p u) g t cs := (Below.heap_setCell w p u g hp).trans h
theorem Blk.below {B : Nat} (h : Blk w g t cs) (hb : Below B w w') (hg : g < B) : Blk w' g t cs := (hb.block g hg).trans h
theorem Blk.grown {row : Option Nat} (h : Blk w g t cs) (hb : w.grownBy w' row) (hg : some g ≠ row) : Blk w' g t cs := (hb.block g h.lt hg).trans h
theorem Blk.ne_ {g' : Nat} {t' : TypeId} {cs' : Array Value} (h : Blk w g t cs) (h' : Blk w g' t' cs') (hne : t ≠ t') : g ≠ g' := by
  rintro rfl
  unfold Blk at h h'
  rw [h] at h'
  injection h' with h'
  injection h' with _ ht
  exact hne ht
theorem own_blk_ne {base : Nat} {e : TypeId} {size n : Nat} {v : Value} {xs : List Value} (h : w.ownsRow base e size v n xs) (hg : Blk w g t cs) (hne : e ≠ t) : v.ownBlock ≠ some g := by
  rcases h.2 with ⟨rfl, _⟩ | ⟨g', cap, cur, rfl, _, hh, _⟩
  · simp [Value.ownBlock]
  · intro he
    have : g' = g := by simpa [Value.ownBlock] using he
    subst this
    exact Blk.ne_ (t := e) hh hg hne rfl
end

/-- All but the blocks of S is as it was. -/
structure Kept (S : Nat → Prop) (w w' : World) : Prop where
  os : w'.os = w.os
  tape : w'.tape = w.tape
  output : w'.output = w.output
  size : w.heap.size ≤ w'.heap.size
  block : ∀ k, k < w.heap.size → ¬ S k → w'.heap[k]? = w.heap[k]?

section
variable {S S' : Nat → Prop} {a b c w w' : World}
theorem Kept.refl (S : Nat → Prop) (w : World) : Kept S w w := ⟨rfl, rfl, rfl, Nat.le_refl _, fun _ _ _ => rfl⟩
theorem Kept.trans (h : Kept S a b) (k : Kept S b c) : Kept S a c :=
  ⟨k.os.trans h.os, k.tape.trans h.tape, k.output.trans h.output, Nat.le_trans h.size k.size, fun i hi hs => (k.block i (Nat.lt_of_lt_of_le hi h.size) hs).trans (h.block i hi hs)⟩
/-- The second step may touch what is new, too. -/
theorem Kept.then_ (h : Kept S a b) (k : Kept S' b c) (hs : ∀ k, k < a.heap.size → S' k → S k) : Kept S a c :=
  ⟨k.os.trans h.os, k.tape.trans h.tape, k.output.trans h.output, Nat.le_trans h.size k.size, fun i hi hn => (k.block i (Nat.lt_of_lt_of_le hi h.size) (fun x => hn (hs i hi x))).trans (h.block i hi hn)⟩
theorem Kept.mono (h : Kept S a b) (hs : ∀ k, S k → S' k) : Kept S' a b := ⟨h.os, h.tape, h.output, h.size, fun i hi hn => h.block i hi (fun x => hn (hs i x))⟩
theorem Kept.of_below (h : Below a.heap.size a b) : Kept S a b := ⟨h.os, h.tape, h.output, h.size, fun i hi _ => h.block i hi⟩
theorem Kept.below (h : Kept S a b) {B : Nat} (hB : B ≤ a.heap.size) (hs : ∀ k, k < B → ¬ S k) : Below B a b := ⟨h.os, h.tape, h.output, h.size, fun i hi => h.block i (by omega) (hs i hi)⟩
theorem Kept.drew (h : Kept S a w) : Kept S a w.drew := ⟨h.os, h.tape, h.output, h.size, h.block⟩
theorem Kept.drewN (h : Kept S a w) (n : Nat) : Kept S a (w.drewN n) := ⟨h.os, h.tape, h.output, h.size, h.block⟩
theorem Kept.alloc (h : Kept S a w) (o : Obj) : Kept S a (w.alloc o) :=
  ⟨h.os, h.tape, h.output, Nat.le_trans h.size (by simp), fun i hi hn => (Below.heap_alloc w o i (Nat.lt_of_lt_of_le hi h.size)).trans (h.block i hi hn)⟩
theorem Kept.setCell (h : Kept S a w) {p : Addr} (hp : S p.block ∨ a.heap.size ≤ p.block) (u : Value) : Kept S a (w.setCell p u) :=
  ⟨h.os, h.tape, h.output, by simpa [World.setCell] using h.size, fun i hi hn => (Below.heap_setCell w p u i (by
    rintro rfl
    rcases hp with hp | hp
    · exact hn hp
    · omega)).trans (h.block i hi hn)⟩
theorem Kept.thenB (h : Kept S a b) (k : Below b.heap.size b c) : Kept S a c := h.trans (Kept.of_below k)
theorem Kept.set1 {g i : Nat} (h : Kept (fun k => k = g) a w) (u : Value) : Kept (fun k => k = g) a (w.setCell ⟨g, i, none⟩ u) := h.setCell (.inl rfl) u
theorem Kept.grown (h : Kept S a w) {row : Option Nat} (hg : w.grownBy w' row) (hr : ∀ k, row = some k → S k ∨ a.heap.size ≤ k) : Kept S a w' :=
  ⟨hg.os.trans h.os, hg.tape.trans h.tape, hg.output.trans h.output, Nat.le_trans h.size hg.size, fun i hi hn =>
    (hg.block i (Nat.lt_of_lt_of_le hi h.size) (fun e => by
      rcases hr i e.symm with x | x
      · exact hn x
      · omega)).trans (h.block i hi hn)⟩
theorem Blk.kept {g : Nat} {t : TypeId} {cs : Array Value} (h : Blk w g t cs) (hk : Kept S w w') (hs : ¬ S g) : Blk w' g t cs := (hk.block g h.lt hs).trans h
theorem own_kept {base : Nat} {e : TypeId} {size n : Nat} {v : Value} {xs : List Value} (h : w.ownsRow base e size v n xs) (hk : Kept S w w') (hs : ∀ g, v.ownBlock = some g → ¬ S g) : w'.ownsRow base e size v n xs := by
  obtain ⟨h1, h2⟩ := h
  refine ⟨h1, ?_⟩
  rcases h2 with h2 | ⟨g, cap, cur, rfl, hg, hh, r⟩
  · exact .inl h2
  · have hl : g < w.heap.size := Blk.lt (t := e) (cs := cur) hh
    exact .inr ⟨g, cap, cur, rfl, hg, (hk.block g hl (hs g rfl)).trans hh, r⟩
theorem bcell {W w1 : World} (hb : Below W.heap.size W w1) : (∀ b o, b < W.heap.size → w1.cell? ⟨b, o, none⟩ = W.cell? ⟨b, o, none⟩) ∧ (∀ b o, b < W.heap.size → w1.frozen? ⟨b, o, none⟩ = W.frozen? ⟨b, o, none⟩) :=
  ⟨fun b o h => hb.cell (p := ⟨b, o, none⟩) h, fun b o h => hb.frozen (p := ⟨b, o, none⟩) h⟩
end

/-- What the table says of a slice type t with elements of type e. -/
structure ElemT (P : Program) (t e : TypeId) (z : Value) (size bytes : Nat) : Prop where
  ht : P.underlying t = some (.slice e)
  hi : (P.info? e).map (fun i => (i.zero, i.size, i.bytes)) = some (some z, size, bytes)
  zs : z.cells.size = size
  pos : 0 < size

section
variable {P : Program} (w : World)
theorem wpList_app {ops : Array Oper} {rest : List Oper} {o : Oper} {a : Act} {Q : Exit → Act → World → Prop} {t e : TypeId} {z : Value} {size bytes : Nat} (E : ElemT P t e z size bytes) (hgd : o.guard = none) (s x : Operand)
    (ho : o.op = .call { callee := .builtin .append, args := #[s, x], argTypes := #[t, t] })
    (base : Nat) (v : Value) (n : Nat) (xs : List Value) (hs : a.eval s = v) (hown : w.ownsRow base e size v n xs)
    (ad : Addr) (m c : Nat) (news : List Value) (hx : a.eval x = .slice (some ad) m c) (hl : news.length = m * size) (hnews : ∀ j u, news[j]? = some u → w.cell? (ad.add j) = some u) (h1 : ∀ u ∈ news, u.oneCell' = true)
    (hm : 0 < m) (h63 : n + m ≤ maxLen) (hbytes : (n + m) * bytes ≤ 140737488355328) (hbase : base ≤ w.heap.size)
    (h : ∀ g cap w', w'.ownsRow base e size (.slice (some ⟨g, 0, none⟩) (n + m) cap) (n + m) (xs ++ news) → w.grownBy w' v.ownBlock → (v.ownBlock = some g ∨ g = w.heap.size) → g < w'.heap.size → wpList P ops Q rest (a.put o.dst (.slice (some ⟨g, 0, none⟩) (n + m) cap)) w') : wpList P ops Q (o :: rest) a w := by
  obtain ⟨i0, hi0, hz0, hz1, hz2⟩ := info_parts E.hi
  exact wpList_append_lies w hgd s x t ho base e i0 z size bytes E.ht hi0 hz0 hz1 hz2 E.zs E.pos v n xs hs hown ad m c news hx hl hnews h1 hm h63 hbytes hbase _ rfl h
theorem step_app {ops : Array Oper} {o : Oper} {a : Act} {K : Act → World → Prop} {Q : Exit → Act → World → Prop} {E0 : Prop} {t e : TypeId} {z : Value} {size bytes : Nat} (E : ElemT P t e z size bytes) (hgd : o.guard = none) (s x : Operand)
    (ho : o.op = .call { callee := .builtin .append, args := #[s, x], argTypes := #[t, t] })
    (base : Nat) (v : Value) (n : Nat) (xs : List Value) (hs : a.eval s = v) (hown : w.ownsRow base e size v n xs)
    (ad : Addr) (m c : Nat) (news : List Value) (hx : a.eval x = .slice (some ad) m c) (hl : news.length = m * size) (hnews : ∀ j u, news[j]? = some u → w.cell? (ad.add j) = some u) (h1 : ∀ u ∈ news, u.oneCell' = true)
    (hm : 0 < m) (h63 : n + m ≤ maxLen) (hbytes : (n + m) * bytes ≤ 140737488355328) (hbase : base ≤ w.heap.size)
    (h : ∀ g cap w', w'.ownsRow base e size (.slice (some ⟨g, 0, none⟩) (n + m) cap) (n + m) (xs ++ news) → w.grownBy w' v.ownBlock → (v.ownBlock = some g ∨ g = w.heap.size) → g < w'.heap.size → K (a.put o.dst (.slice (some ⟨g, 0, none⟩) (n + m) cap)) w') :
    if Region.wanted o (yielded ops a.tmps) = true then Oper.wp P o a w K Q else E0 := by
  obtain ⟨i0, hi0, hz0, hz1, hz2⟩ := info_parts E.hi
  exact step_append_lies w hgd s x t ho base e i0 z size bytes E.ht hi0 hz0 hz1 hz2 E.zs E.pos v n xs hs hown ad m c news hx hl hnews h1 hm h63 hbytes hbase _ rfl h
/-- The cells of a block that was just made. -/
theorem news_new (w : World) (l : List Value) (t : TypeId) : ∀ j u, l[j]? = some u → (w.alloc (.cells l.toArray t)).cell? ((⟨w.heap.size, 0, none⟩ : Addr).add j) = some u :=
  fun j u hu => World.news_of_block (heap_alloc_new w (.cells l.toArray t)) j u (by simpa using hu)
end
end Go.Proofs.YticmfflnenoplacGreatDoor
namespace Go.Proofs.YticmfflnenoplacGreatDoor
open Go.RowKit

namespace Dk
structure Pair where
  file : ByteArray
  draft : ByteArray
  there : Bool
  drafted : Bool
structure Change where
  data : ByteArray
  move : Bool
structure St where
  kept : Pair
  now : Pair
  wait : List Change
  fuse : Int
  down : Bool
def noText : ByteArray := ⟨#[]⟩
def noPair : Pair := ⟨noText, noText, false, false⟩
def new : St := ⟨noPair, noPair, [], -1, false⟩
def apply (p : Pair) (c : Change) : Pair := match c.move with
  | true => ⟨p.draft, noText, true, false⟩
  | false => ⟨p.file, c.data, p.there, true⟩
def Pair.val (p : Pair) : Value := .agg #[.string p.file, .string p.draft, .bool p.there, .bool p.drafted]
def Change.val (c : Change) : Value := .agg #[.string c.data, .bool c.move]
def Change.cells (c : Change) : List Value := [.string c.data, .bool c.move]
def flat (l : List Change) : List Value := l.flatMap Change.cells
def cells (s : St) (wv : Value) : Array Value :=
  #[.string s.kept.file, .string s.kept.draft, .bool s.kept.there, .bool s.kept.drafted, .string s.now.file, .string s.now.draft, .bool s.now.there, .bool s.now.drafted, wv, .int .i64 s.fuse, .bool s.down]
/-- A disk of type T, its changes of type e, lies at block b. -/
structure Is (T e : TypeId) (w : World) (b : Nat) (wv : Value) (s : St) : Prop where
  blk : Blk w b T (cells s wv)
  row : w.ownsRow 0 e 2 wv s.wait.length (flat s.wait)
def Fp (b : Nat) (wv : Value) (k : Nat) : Prop := k = b ∨ wv.ownBlock = some k
/-- After an operation on the disk at b. -/
def After (T e : TypeId) (b : Nat) (wv : Value) (s' : St) (w w' : World) : Prop :=
  ∃ wv', Is T e w' b wv' s' ∧ (wv'.ownBlock = wv.ownBlock ∨ ∀ k, wv'.ownBlock = some k → w.heap.size ≤ k) ∧ Kept (Fp b wv) w w'
def stepOk (s : St) : St := { s with fuse := if 0 < s.fuse then s.fuse - 1 else s.fuse }
def stepDead (s : St) : St := { s with down := true, fuse := if s.down = true then s.fuse else -1 }
def dead (s : St) : Bool := s.down || (s.fuse == 0)
theorem Is.kept {T e : TypeId} {w w' : World} {b : Nat} {wv : Value} {s : St} {S : Nat → Prop} (h : Is T e w b wv s) (hk : Kept S w w') (hb : ¬ S b) (hw : ∀ g, wv.ownBlock = some g → ¬ S g) : Is T e w' b wv s :=
  ⟨h.blk.kept hk hb, own_kept h.row hk hw⟩
end Dk
open Dk


/-- A call returned v and left the disk at b in the state s'. -/
def OpPost (T e : TypeId) (b : Nat) (wv : Value) (w : World) (v : Value) (s' : St) (en : Ending) (w' : World) : Prop :=
  en = .returned v ∧ After T e b wv s' w w'
namespace Dk
def doS (s : St) (c : Change) : Int × St := if dead s = true then (11, stepDead s) else (0, { stepOk s with now := apply s.now c, wait := s.wait ++ [c] })
def stepS (s : St) : Int × St := if dead s = true then (11, stepDead s) else (0, stepOk s)
def writeS (s : St) (t : ByteArray) : Int × St := if 6000 < t.size then (2, s) else doS s ⟨t, false⟩
def moveS (s : St) : Int × St := if s.now.drafted = true then doS s ⟨noText, true⟩ else (6, s)
def syncS (s : St) : Int × St := if dead s = true then (11, stepDead s) else (0, { stepOk s with kept := s.now, wait := [] })
def readS (s : St) : ByteArray × Int := if s.down = true then (noText, 11) else if s.now.there = true then (s.now.file, 0) else (noText, 6)
def spoilS (s : St) (t : ByteArray) : St := if t.size ≤ 6000 then { s with kept := { s.kept with file := t, there := true }, now := { s.now with file := t, there := true } } else s
/-- The piece of the next change that is kept. -/
def tearS (p : Pair) (l : List Change) (k : Nat) (torn : Int) : Pair := match l[k]? with
  | some c => if c.move = false ∧ 0 < torn ∧ 0 < c.data.size then apply p ⟨c.data.extract 0 (min torn.toNat c.data.size), false⟩ else p
  | none => p
def lateS (s : St) (k : Nat) (torn : Int) : Pair := tearS ((s.wait.take k).foldl apply s.kept) s.wait k torn
def restartS (s : St) (k : Nat) (torn : Int) : St := ⟨lateS s k torn, lateS s k torn, [], -1, false⟩
def kOf (keep : Int) (n : Nat) : Nat := if keep < 0 then 0 else min keep.toNat n
theorem kOf_spec (keep : Int) (n : Nat) : (keep < 0 ∧ kOf keep n = 0) ∨ (keep = kOf keep n ∧ kOf keep n ≤ n) ∨ ((n : Int) < keep ∧ kOf keep n = n) := by
  unfold kOf
  split
  · exact .inl ⟨by assumption, rfl⟩
  · rcases Nat.lt_or_ge n keep.toNat with h | h
    · exact .inr (.inr ⟨by omega, by omega⟩)
    · exact .inr (.inl ⟨by omega, by omega⟩)
def armS (s : St) (n : Int) : St := { s with fuse := max n (-1) }
theorem tearS_some {p : Pair} {l : List Change} {k : Nat} {torn : Int} (hk : k < l.length) : tearS p l k torn = if l[k].move = false ∧ 0 < torn ∧ 0 < l[k].data.size then apply p ⟨l[k].data.extract 0 (min torn.toNat l[k].data.size), false⟩ else p := by
  unfold tearS
  rw [List.getElem?_eq_getElem hk]
theorem tearS_none {p : Pair} {l : List Change} {k : Nat} {torn : Int} (hk : l.length ≤ k) : tearS p l k torn = p := by
  unfold tearS
  rw [List.getElem?_eq_none hk]
theorem extract_all (t : ByteArray) : t.extract 0 t.size = t := by
  apply ByteArray.ext
  rw [ByteArray.data_extract]
  exact Array.extract_size
theorem flat_at (l : List Change) (j : Nat) (hj : j < l.length) : (flat l)[j * 2]? = some (.string l[j].data) ∧ (flat l)[j * 2 + 1]? = some (.bool l[j].move) := by
  induction l generalizing j with
  | nil => simp at hj
  | cons c l ih =>
    cases j with
    | zero => simp [flat, Change.cells]
    | succ j =>
      have := ih j (by simpa using hj)
      simp only [flat, List.flatMap_cons, Change.cells] at this ⊢
      rw [show (j + 1) * 2 = 2 + j * 2 from by omega]
      constructor
      · rw [List.getElem?_append_right (by simp)]; simpa using this.1
      · rw [List.getElem?_append_right (by simp; omega)]; simpa [show 2 + j * 2 + 1 - 2 = j * 2 + 1 from by omega] using this.2
theorem doS_ok {s : St} {c : Change} (hd : dead s = false) : doS s c = (0, { stepOk s with now := apply s.now c, wait := s.wait ++ [c] }) := by simp [doS, hd]
theorem doS_dead {s : St} {c : Change} (hd : dead s = true) : doS s c = (11, stepDead s) := by simp [doS, hd]
theorem stepS_ok {s : St} (hd : dead s = false) : stepS s = (0, stepOk s) := by simp [stepS, hd]
theorem stepS_dead {s : St} (hd : dead s = true) : stepS s = (11, stepDead s) := by simp [stepS, hd]
theorem syncS_ok {s : St} (hd : dead s = false) : syncS s = (0, { stepOk s with kept := s.now, wait := [] }) := by simp [syncS, hd]
theorem syncS_dead {s : St} (hd : dead s = true) : syncS s = (11, stepDead s) := by simp [syncS, hd]
end Dk
theorem Dk.Is.step {T e : TypeId} {w : World} {b : Nat} {wv : Value} {s s' : St} (h : Is T e w b wv s) {w' : World} (hb : Blk w' b T (cells s' wv)) (hw : s'.wait = s.wait) (hk : Kept (fun k => k = b) w w') (hne : e ≠ T) : After T e b wv s' w w' := by
  refine ⟨wv, ⟨hb, ?_⟩, .inl rfl, hk.mono fun k hk => .inl hk⟩
  rw [hw]
  exact own_kept h.row hk fun g hg he => own_blk_ne h.row h.blk hne (by rw [hg, he])

theorem Dk.Is.alloc {T e : TypeId} {w : World} {b : Nat} {wv : Value} {s : St} (h : Is T e w b wv s) (o : Obj) : Is T e (w.alloc o) b wv s :=
  h.kept ((Kept.refl (fun _ => False) w).alloc o) (fun h => h) (fun _ _ h => h)
theorem Dk.Is.own_lt {T e : TypeId} {w : World} {b : Nat} {wv : Value} {s : St} (h : Is T e w b wv s) {g : Nat} (hg : wv.ownBlock = some g) : g < w.heap.size := by
  rcases h.row.2 with ⟨rfl, _⟩ | ⟨g', cap, cur, rfl, _, hh, _⟩
  · simp [Value.ownBlock] at hg
  · obtain rfl : g' = g := by simpa [Value.ownBlock] using hg
    exact Blk.lt (t := e) (cs := cur) hh
theorem Dk.After.trans {T e : TypeId} {b : Nat} {wv wv1 : Value} {s' : St} {w w1 w2 : World} (hk : Kept (Fp b wv) w w1) (ho : wv1.ownBlock = wv.ownBlock ∨ ∀ k, wv1.ownBlock = some k → w.heap.size ≤ k) (h : After T e b wv1 s' w1 w2) : After T e b wv s' w w2 := by
  obtain ⟨wv2, hi, ho2, hk2⟩ := h
  refine ⟨wv2, hi, ?_, hk.then_ hk2 ?_⟩
  · rcases ho2 with ho2 | ho2
    · rw [ho2]; exact ho
    · exact .inr fun k hk' => Nat.le_trans hk.size (ho2 k hk')
  · rintro k hlt (rfl | hk')
    · exact .inl rfl
    · rcases ho with ho | ho
      · exact .inr (ho ▸ hk')
      · exact absurd (ho k hk') (by omega)
theorem Dk.After.same {T e : TypeId} {w : World} {b : Nat} {wv : Value} {s : St} (h : Is T e w b wv s) : After T e b wv s w w := ⟨wv, h, .inl rfl, Kept.refl _ _⟩

end Go.Proofs.YticmfflnenoplacGreatDoor
namespace Go.Proofs.YticmfflnenoplacGreatDoor.DkP
open Go.RowKit Dk

def V (n : Int) : Value := if n = 0 then .nilIface else .iface 117 (.int .i64 n)

set_option maxHeartbeats 400000 in
theorem apply_x (f d data : ByteArray) (th dr mv : Bool) (w : World) :
    Calls Tryz.prog 55 #[.agg #[.string f, .string d, .bool th, .bool dr], .agg #[.string data, .bool mv]] w fun e w' => e = .returned (.agg #[.string (apply ⟨f, d, th, dr⟩ ⟨data, mv⟩).file, .string (apply ⟨f, d, th, dr⟩ ⟨data, mv⟩).draft, .bool (apply ⟨f, d, th, dr⟩ ⟨data, mv⟩).there, .bool (apply ⟨f, d, th, dr⟩ ⟨data, mv⟩).drafted]) ∧ Below w.heap.size w w' := by
  cases mv
  all_goals
    unfold apply noText
    dsimp only
    go_enter Tryz.func55, Tryz.ntmps55
    go_wp2
    refine bodyPost_ret (v := .agg #[.string _, .string _, .bool _, .bool _]) (by simp [results, Tryz.results55, go_sem]) rfl ⟨rfl, ?_⟩
    exact (((Below.refl _ _).alloc (Nat.le_refl _) _).alloc (by simp) _).alloc (by simp; omega) _

set_option maxHeartbeats 400000 in
theorem step_dead (s : St) (b : Nat) (wv : Value) (w : World) (h : Is 111 123 w b wv s) (hd : dead s = true) :
    Calls Tryz.prog 97 #[.pointer (some ⟨b, 0, none⟩)] w (OpPost 111 123 b wv w (.iface 117 (.int .i64 11)) (stepDead s)) := by
  have hb := h.blk
  have hc := hb.cells
  have hf := hb.frozens
  obtain ⟨kept, now, wait, fuse, down⟩ := s
  unfold Dk.cells at hc
  dsimp only at hc
  cases down
  · obtain rfl : fuse = 0 := by simpa [dead] using hd
    go_enter Tryz.func97, Tryz.ntmps97
    go_wp2
    go_ret
    refine ⟨rfl, ?_⟩
    refine h.step ?_ rfl (((Kept.refl _ _).set1 _).set1 _) (by decide)
    exact (hb.set_ 10 _).set_ 9 _
  · go_enter Tryz.func97, Tryz.ntmps97
    go_wp2
    go_ret
    exact ⟨rfl, h.step (by simpa [Dk.cells, stepDead] using hb) rfl (Kept.refl _ _) (by decide)⟩

set_option maxHeartbeats 400000 in
theorem step_ok (s : St) (b : Nat) (wv : Value) (w : World) (hfu : -1 ≤ s.fuse) (hfu2 : s.fuse ≤ 9223372036854775807) (h : Is 111 123 w b wv s) (hd : dead s = false) :
    Calls Tryz.prog 97 #[.pointer (some ⟨b, 0, none⟩)] w (OpPost 111 123 b wv w .nilIface (stepOk s)) := by
  have hb := h.blk
  have hc := hb.cells
  have hf := hb.frozens
  obtain ⟨kept, now, wait, fuse, down⟩ := s
  unfold Dk.cells at hc
  dsimp only at hc hfu hfu2
  have hd' : down = false ∧ fuse ≠ 0 := by simpa [dead] using hd
  obtain ⟨rfl, h0⟩ := hd'
  have e0 : ((fuse : Int) == 0) = false := by simpa using h0
  clear hd
  by_cases h1 : 0 < fuse
  · go_enter Tryz.func97, Tryz.ntmps97
    go_wp2
    go_ret
    refine ⟨rfl, ?_⟩
    refine h.step ?_ rfl ((Kept.refl _ _).set1 _) (by decide)
    have := hb.set_ 9 (.int .i64 (fuse - 1))
    simpa [Dk.cells, stepOk, h1] using this
  · go_enter Tryz.func97, Tryz.ntmps97
    go_wp2
    go_ret
    refine ⟨rfl, ?_⟩
    refine h.step ?_ rfl (Kept.refl _ _) (by decide)
    simpa [Dk.cells, stepOk, show ¬ 0 < fuse from by omega] using hb

theorem changeT : ElemT Tryz.prog 109 123 (.agg #[.string noText, .bool false]) 2 24 := ⟨Tryz.underlying109, by kernel_rfl, rfl, by omega⟩
set_option maxHeartbeats 800000 in
theorem do_ok (s : St) (c : Change) (b : Nat) (wv : Value) (w : World) (hfu : -1 ≤ s.fuse) (hfu2 : s.fuse ≤ 9223372036854775807) (h : Is 111 123 w b wv s) (hd : dead s = false) (hwl : s.wait.length ≤ 1000) :
    Calls Tryz.prog 96 #[.pointer (some ⟨b, 0, none⟩), c.val] w (OpPost 111 123 b wv w .nilIface { stepOk s with now := apply s.now c, wait := s.wait ++ [c] }) := by
  obtain ⟨data, mv⟩ := c
  have hbw := h.blk.lt
  unfold Change.val
  dsimp only
  go_enter Tryz.func96, Tryz.ntmps96
  go_wp2_with fail
  refine (step_ok s b wv _ hfu hfu2 (h.alloc _) hd).mono ?_
  rintro e w1 ⟨rfl, wv1, hs1, hown1, hk1⟩
  have hbx1 : Blk w1 w.heap.size 123 #[.string data, .bool mv] := (Blk.new w _ _).kept hk1 (by
    rintro (x | x)
    · omega
    · exact absurd (h.own_lt x) (by omega))
  have hc1 := hs1.blk.cells
  have hf1 := hs1.blk.frozens
  have hx1 := hbx1.cells
  have hlt1 := hs1.blk.lt
  have hwl1 : (stepOk s).wait.length ≤ 1000 := hwl
  obtain ⟨s1, hS1⟩ : ∃ s1, Hid (stepOk s = s1) := ⟨_, rfl⟩
  rw [hS1.out] at hs1 hwl1 hc1
  obtain ⟨⟨kf, kd, kt, kr⟩, ⟨nf, nd, nt, nr⟩, wait, fuse, down⟩ := s1
  unfold Dk.cells at hc1
  dsimp only at hc1 hwl1
  go_upto_region 3 with fail
  go_cut [] (fun wx => Is 111 123 wx b wv1 ⟨⟨kf, kd, kt, kr⟩, apply ⟨nf, nd, nt, nr⟩ ⟨data, mv⟩, wait, fuse, down⟩ ∧ Kept (fun k => k = b) w1 wx)
  case first =>
    go_region_with (first | (go_at_call 55; refine (apply_x _ _ _ _ _ _ _).mono ?_; rintro e w2 ⟨rfl, hb2⟩; have hc2 := fun i => (hb2.cell (p := ⟨b, i, none⟩) hlt1).trans (hc1 i); have hf2 := fun i => (hb2.frozen (p := ⟨b, i, none⟩) hlt1).trans (hf1 i)))
    all_goals
      go_wp2_with fail
      go_meet
      have hk2 : Kept (fun k => k = b) w1 w2 := ((Kept.refl _ _).drew).then_ (Kept.of_below hb2) (fun _ _ h => h)
      have hb2' : Blk w2 b 111 _ := (hs1.blk.drew).below hb2 hlt1
      have hk3 := ((((hk2.set1 (i := 4) (.string (apply ⟨nf, nd, nt, nr⟩ ⟨data, mv⟩).file)).set1 (i := 5) (.string (apply ⟨nf, nd, nt, nr⟩ ⟨data, mv⟩).draft)).set1 (i := 6) (.bool (apply ⟨nf, nd, nt, nr⟩ ⟨data, mv⟩).there)).set1 (i := 7) (.bool (apply ⟨nf, nd, nt, nr⟩ ⟨data, mv⟩).drafted))
      refine ⟨⟨(((hb2'.set_ 4 _).set_ 5 _).set_ 6 _).set_ 7 _, ?_⟩, hk3⟩
      exact own_kept hs1.row hk3 fun g hg he => own_blk_ne hs1.row hs1.blk (by decide) (by rw [hg, he])
  case rest =>
    obtain ⟨hs2, hk2⟩ := hcut
    have hbx2 : Blk wc w.heap.size 123 #[.string data, .bool mv] := hbx1.kept hk2 (by omega)
    have hc2 := hs2.blk.cells
    have hf2 := hs2.blk.frozens
    have hx2 := hbx2.cells
    have hlt2 := hs2.blk.lt
    unfold Dk.cells at hc2
    dsimp only at hc2
    clear hc1 hf1 hx1
    have hro := hs2.row
    dsimp only at hro
    have hne2 : some b ≠ wv1.ownBlock := fun he => own_blk_ne hs2.row hs2.blk (by decide) he.symm
    go_wp2_with fail
    go_region_law (first | (refine step_app _ changeT rfl (.tmp 23) (.tmp 25) rfl 0 wv1 wait.length (flat wait) rfl (by exact hro.alloc _) ⟨wc.heap.size, 0, none⟩ 1 1 [.string data, .bool mv] rfl rfl (by exact news_new wc.drew _ _) (by simp [Value.oneCell']) (by omega) (by unfold maxLen; omega) (by omega) (Nat.zero_le _) ?_; intro g cap w3 hown3 hg3 hat3 hlt3; have hb3 := Blk.grown (g := b) (t := 111) (cs := cells ⟨⟨kf, kd, kt, kr⟩, apply ⟨nf, nd, nt, nr⟩ ⟨data, mv⟩, wait, fuse, down⟩ wv1) (by exact hs2.blk.alloc _) hg3 hne2; have hc3 := hb3.cell 8; have hf3 := hb3.frozen 8; unfold Dk.cells at hc3))
    all_goals
      go_wp2_with fail
      go_ret
      have hk3 : Kept (Fp b wv1) w1 w3 := by
        refine (((hk2.mono fun k hk => (.inl hk : Fp b wv1 k)).drew).alloc _).grown hg3 fun k hk => ?_
        exact .inl (.inr hk)
      have hk4 : Kept (Fp b wv1) w1 _ := hk3.setCell (p := ⟨b, 8, none⟩) (.inl (.inl rfl)) (.slice (some ⟨g, 0, none⟩) (wait.length + 1) cap)
      have hne4 : (Value.slice (some ⟨g, 0, none⟩) (wait.length + 1) cap).ownBlock ≠ some b := own_blk_ne hown3 hb3 (by decide)
      have hblk4 := hb3.set_ 8 (.slice (some ⟨g, 0, none⟩) (wait.length + 1) cap)
      have hS2 := hS1.out
      rw [show ({ stepOk s with now := apply s.now ⟨data, mv⟩, wait := s.wait ++ [⟨data, mv⟩] } : St) = { (stepOk s) with now := apply (stepOk s).now ⟨data, mv⟩, wait := (stepOk s).wait ++ [⟨data, mv⟩] } from rfl, hS2]
      refine ⟨rfl, ?_⟩
      refine Dk.After.trans ((Kept.refl _ _).alloc (.cells #[.string data, .bool mv] 123)) (.inl rfl) ?_
      refine Dk.After.trans hk1 hown1 ⟨_, ⟨hblk4, ?_⟩, ?_, hk4⟩
      · have := own_kept (S := fun k => k = b) hown3 ((Kept.refl _ _).set1 (i := 8) (.slice (some ⟨g, 0, none⟩) (wait.length + 1) cap)) (fun k hk he => hne4 (by rw [hk, he]))
        simpa [flat, Change.cells] using this
      · rcases hat3 with hat3 | hat3
        · exact .inl (by rw [hat3]; rfl)
        · refine .inr fun k hk => ?_
          have hk' : g = k := by simpa [Value.ownBlock] using hk
          have h1 := hk2.size
          have h2 : g = wc.heap.size + 1 := by simpa using hat3
          omega


set_option maxHeartbeats 400000 in
theorem do_dead (s : St) (c : Change) (b : Nat) (wv : Value) (w : World) (h : Is 111 123 w b wv s) (hd : dead s = true) :
    Calls Tryz.prog 96 #[.pointer (some ⟨b, 0, none⟩), c.val] w (OpPost 111 123 b wv w (.iface 117 (.int .i64 11)) (stepDead s)) := by
  obtain ⟨data, mv⟩ := c
  unfold Change.val
  dsimp only
  go_enter Tryz.func96, Tryz.ntmps96
  go_wp2_with fail
  refine (step_dead s b wv _ (h.alloc _) hd).mono ?_
  rintro e w1 ⟨rfl, ha⟩
  go_wp2_with fail
  go_ret
  exact ⟨rfl, Dk.After.trans ((Kept.refl _ _).alloc _) (.inl rfl) ha⟩

set_option maxHeartbeats 400000 in
theorem sync_dead (s : St) (b : Nat) (wv : Value) (w : World) (h : Is 111 123 w b wv s) (hd : dead s = true) :
    Calls Tryz.prog 49 #[.pointer (some ⟨b, 0, none⟩)] w (OpPost 111 123 b wv w (.iface 117 (.int .i64 11)) (stepDead s)) := by
  go_enter Tryz.func49, Tryz.ntmps49
  go_wp2_with fail
  refine (step_dead s b wv _ h hd).mono ?_
  rintro e w1 ⟨rfl, ha⟩
  go_wp2_with fail
  go_ret
  exact ⟨rfl, ha⟩

set_option maxHeartbeats 400000 in
theorem sync_ok (s : St) (b : Nat) (wv : Value) (w : World) (hfu : -1 ≤ s.fuse) (hfu2 : s.fuse ≤ 9223372036854775807) (h : Is 111 123 w b wv s) (hd : dead s = false) :
    Calls Tryz.prog 49 #[.pointer (some ⟨b, 0, none⟩)] w (OpPost 111 123 b wv w .nilIface { stepOk s with kept := s.now, wait := [] }) := by
  go_enter Tryz.func49, Tryz.ntmps49
  go_wp2_with fail
  refine (step_ok s b wv _ hfu hfu2 h hd).mono ?_
  rintro e w1 ⟨rfl, wv1, hs1, hown1, hk1⟩
  have hb := hs1.blk
  have hc := hb.cells
  have hf := hb.frozens
  unfold Dk.cells at hc
  go_wp2_with fail
  go_ret
  refine ⟨rfl, Dk.After.trans hk1 hown1 ⟨.slice none 0 0, ⟨?_, World.ownsRow_nil _ _ _ _⟩, .inr (by simp [Value.ownBlock]), ?_⟩⟩
  · exact ((((hb.set_ 0 _).set_ 1 _).set_ 2 _).set_ 3 _).set_ 8 _
  · exact ((((((Kept.refl _ _).set1 (g := b) (i := 0) _).set1 (i := 1) _).set1 (i := 2) _).set1 (i := 3) _).set1 (i := 8) _).mono fun k hk => .inl hk

set_option maxHeartbeats 400000 in
theorem read_any (s : St) (b : Nat) (wv : Value) (w : World) (h : Is 111 123 w b wv s) :
    Calls Tryz.prog 51 #[.pointer (some ⟨b, 0, none⟩)] w fun e w' => e = .returned (.tuple #[.string (readS s).1, V (readS s).2]) ∧ w = w' := by
  have hc := h.blk.cells
  obtain ⟨kept, ⟨nf, nd, nt, nr⟩, wait, fuse, down⟩ := s
  unfold Dk.cells at hc
  dsimp only at hc
  cases down <;> cases nt
  all_goals
    go_enter Tryz.func51, Tryz.ntmps51
    go_wp2
    go_ret2
    exact ⟨rfl, rfl⟩

set_option maxHeartbeats 400000 in
theorem spoil_any (s : St) (t : ByteArray) (b : Nat) (wv : Value) (w : World) (ht : t.size ≤ 9223372036854775807) (h : Is 111 123 w b wv s) :
    Calls Tryz.prog 38 #[.pointer (some ⟨b, 0, none⟩), .string t] w (OpPost 111 123 b wv w (.tuple #[]) (spoilS s t)) := by
  have hb := h.blk
  have hc := hb.cells
  have hf := hb.frozens
  unfold Dk.cells at hc
  by_cases hlt : t.size ≤ 6000
  · go_enter Tryz.func38, Tryz.ntmps38
    go_wp2
    go_end0
    refine ⟨rfl, ?_⟩
    refine h.step ?_ (by simp [spoilS]; split <;> rfl) (((((Kept.refl _ _).set1 (g := b) (i := 0) _).set1 (i := 2) _).set1 (i := 4) _).set1 (i := 6) _) (by decide)
    have := (((hb.set_ 0 (.string t)).set_ 2 (.bool true)).set_ 4 (.string t)).set_ 6 (.bool true)
    simpa [spoilS, hlt, Dk.cells] using this
  · go_enter Tryz.func38, Tryz.ntmps38
    go_wp2
    first | go_end0 | refine bodyPost_ret (results_none rfl _ _ _) rfl ?_
    refine ⟨rfl, ?_⟩
    rw [show spoilS s t = s by simp [spoilS, show ¬ t.size ≤ 6000 from by omega]]
    exact Dk.After.same h

set_option maxHeartbeats 400000 in
theorem write_long (s : St) (t : ByteArray) (b : Nat) (wv : Value) (w : World) (ht : t.size ≤ 9223372036854775807) (hl : 6000 < t.size) (h : Is 111 123 w b wv s) :
    Calls Tryz.prog 48 #[.pointer (some ⟨b, 0, none⟩), .string t] w (OpPost 111 123 b wv w (.iface 117 (.int .i64 2)) s) := by
  go_enter Tryz.func48, Tryz.ntmps48
  go_wp2
  go_ret
  exact ⟨rfl, Dk.After.same h⟩

set_option maxHeartbeats 400000 in
theorem write_short (s : St) (t : ByteArray) (b : Nat) (wv : Value) (w : World) (hfu : -1 ≤ s.fuse) (hfu2 : s.fuse ≤ 9223372036854775807) (hl : t.size ≤ 6000) (hwl : s.wait.length ≤ 1000) (h : Is 111 123 w b wv s) :
    Calls Tryz.prog 48 #[.pointer (some ⟨b, 0, none⟩), .string t] w (OpPost 111 123 b wv w (if dead s = true then (.iface 117 (.int .i64 11)) else .nilIface) (doS s ⟨t, false⟩).2) := by
  cases hd : dead s
  · rw [doS_ok hd]
    have H := do_ok s ⟨t, false⟩ b wv w hfu hfu2 h hd hwl
    go_enter Tryz.func48, Tryz.ntmps48
    go_wp2_with fail
    refine H.mono ?_
    rintro e w1 ⟨rfl, ha⟩
    go_wp2_with fail
    go_ret
    exact ⟨rfl, ha⟩
  · rw [doS_dead hd]
    have H := do_dead s ⟨t, false⟩ b wv w h hd
    go_enter Tryz.func48, Tryz.ntmps48
    go_wp2_with fail
    refine H.mono ?_
    rintro e w1 ⟨rfl, ha⟩
    go_wp2_with fail
    go_ret
    exact ⟨rfl, ha⟩

set_option maxHeartbeats 400000 in
theorem move_none (s : St) (b : Nat) (wv : Value) (w : World) (hl : s.now.drafted = false) (h : Is 111 123 w b wv s) :
    Calls Tryz.prog 50 #[.pointer (some ⟨b, 0, none⟩)] w (OpPost 111 123 b wv w (.iface 117 (.int .i64 6)) s) := by
  have hc := h.blk.cells
  unfold Dk.cells at hc
  rw [hl] at hc
  go_enter Tryz.func50, Tryz.ntmps50
  go_wp2
  go_ret
  exact ⟨rfl, Dk.After.same h⟩

set_option maxHeartbeats 400000 in
theorem move_some (s : St) (b : Nat) (wv : Value) (w : World) (hfu : -1 ≤ s.fuse) (hfu2 : s.fuse ≤ 9223372036854775807) (hl : s.now.drafted = true) (hwl : s.wait.length ≤ 1000) (h : Is 111 123 w b wv s) :
    Calls Tryz.prog 50 #[.pointer (some ⟨b, 0, none⟩)] w (OpPost 111 123 b wv w (if dead s = true then (.iface 117 (.int .i64 11)) else .nilIface) (doS s ⟨noText, true⟩).2) := by
  have hc := h.blk.cells
  unfold Dk.cells at hc
  rw [hl] at hc
  cases hd : dead s
  · rw [doS_ok hd]
    have H := do_ok s ⟨noText, true⟩ b wv w hfu hfu2 h hd hwl
    go_enter Tryz.func50, Tryz.ntmps50
    go_wp2_with fail
    refine H.mono ?_
    rintro e w1 ⟨rfl, ha⟩
    go_wp2_with fail
    go_ret
    exact ⟨rfl, ha⟩
  · rw [doS_dead hd]
    have H := do_dead s ⟨noText, true⟩ b wv w h hd
    go_enter Tryz.func50, Tryz.ntmps50
    go_wp2_with fail
    refine H.mono ?_
    rintro e w1 ⟨rfl, ha⟩
    go_wp2_with fail
    go_ret
    exact ⟨rfl, ha⟩

set_option maxHeartbeats 400000 in
theorem new_any (w : World) :
    Calls Tryz.prog 12 #[] w fun e w' => ∃ b, e = .returned (.pointer (some ⟨b, 0, none⟩)) ∧ Is 111 123 w' b (.slice none 0 0) new ∧ b = w.heap.size ∧ Below w.heap.size w w' := by
  go_enter Tryz.func12, Tryz.ntmps12
  go_wp2
  go_ret
  exact ⟨w.heap.size, rfl, ⟨Blk.new _ _ _, World.ownsRow_nil _ _ _ _⟩, rfl, (Below.refl _ _).alloc (Nat.le_refl _) _⟩
end Go.Proofs.YticmfflnenoplacGreatDoor.DkP
namespace Go.Proofs.YticmfflnenoplacGreatDoor.DkP
open Go.RowKit Dk

set_option maxRecDepth 100000 in
set_option maxHeartbeats 1600000 in
theorem restart_any (s : St) (keep torn : Int) (kk : Nat) (b : Nat) (wv : Value) (w : World) (hwl : s.wait.length ≤ 1000) (h : Is 111 123 w b wv s)
   (hdl : ∀ c ∈ s.wait, c.data.size ≤ 6000) (hkk : (keep < 0 ∧ kk = 0) ∨ (keep = kk ∧ kk ≤ s.wait.length) ∨ (s.wait.length < keep ∧ kk = s.wait.length)) :
    Calls Tryz.prog 19 #[.pointer (some ⟨b, 0, none⟩), .int .i64 keep, .int .i64 torn] w (OpPost 111 123 b wv w (.tuple #[]) (restartS s kk torn)) := by
  have hb := h.blk
  have hc := hb.cells
  have hf := hb.frozens
  unfold Dk.cells at hc
  have hr := h.row
  have hkl : kk ≤ s.wait.length := by omega
  have hcap : ∃ A cap, wv = .slice A s.wait.length cap ∧ s.wait.length ≤ cap ∧ cap ≤ maxLen := by
    rcases hr.2 with ⟨hv, h0⟩ | ⟨g, cap, cur, hv, hg, hh, h1, h2, _⟩
    · exact ⟨none, 0, by rw [hv, h0], by omega, by simp [maxLen]⟩
    · exact ⟨_, cap, hv, h1, h2⟩
  obtain ⟨A, cap, rfl, hc1, hc2⟩ := hcap
  unfold maxLen at hc2
  go_enter Tryz.func19, Tryz.ntmps19
  go_upto_region 0 with fail
  go_cut [1] (fun s1 wx => s1 = .int .i64 kk ∧ w = wx)
  case first =>
    rcases hkk with ⟨hk, rfl⟩ | ⟨rfl, hk⟩ | ⟨hk, rfl⟩
    all_goals
      go_wp2_with fail
      go_meet
      exact ⟨rfl, rfl⟩
  case rest =>
    obtain ⟨rfl, rfl⟩ := hcut
    clear hkk
    go_wp2_with fail
    go_loopw [25] (fun i wr => ∃ j : Nat, i = .int .i64 j ∧ j ≤ kk ∧ Blk wr b 111 (cells { s with kept := (s.wait.take j).foldl apply s.kept } (.slice A s.wait.length cap)) ∧ Kept (fun x => x = b) w wr) (fun i _ => kk - (intOf i).toNat)
    case atStart => exact ⟨0, rfl, by omega, by simpa using hb, Kept.refl _ _⟩
    case round =>
      obtain ⟨j, rfl, hj, hbr, hkr⟩ := hrel
      have hcr := hbr.cells
      have hfr := hbr.frozens
      unfold Dk.cells at hcr
      dsimp only at hcr
      clear hc hf
      by_cases hlt : j < kk
      · have hA : ∃ g, A = some ⟨g, 0, none⟩ ∧ g ≠ b := by
          obtain ⟨g, cap', hv, _, _⟩ := hr.form (by omega)
          refine ⟨g, by simp at hv; exact hv.1, fun he => own_blk_ne hr hb (by decide) (by rw [hv, he]; rfl)⟩
        obtain ⟨g, rfl, hgb⟩ := hA
        have hrr := own_kept hr hkr (by simp [Value.ownBlock]; exact hgb)
        obtain ⟨f1, f2⟩ := flat_at s.wait j (by omega)
        have g1 := (hrr.cellAt (j * 2) (by omega)).trans f1
        have g2 := (hrr.cellAt (j * 2 + 1) (by omega)).trans f2
        clear f1 f2
        have hltr := hbr.lt
        go_wp2_with fail
        go_region_with (first | (go_at_call 55; refine (apply_x _ _ _ _ _ _ _).mono ?_; rintro e w2 ⟨rfl, hb2⟩; have hb3 : Blk w2 b 111 (cells { s with kept := (s.wait.take j).foldl apply s.kept } (.slice (some ⟨g, 0, none⟩) s.wait.length cap)) := Blk.below (by exact hbr.alloc _) hb2 (by simp; omega); have hc2 := hb3.cells; have hf2 := hb3.frozens; unfold Dk.cells at hc2; dsimp only at hc2))
        all_goals
          go_wp2_with fail
          have hk2 : Kept (fun x => x = b) w w2 := ((hkr.alloc _).drew).thenB hb2
          have hnx : (s.wait.take (j + 1)).foldl apply s.kept = apply ((s.wait.take j).foldl apply s.kept) s.wait[j] := by
            rw [List.take_succ_eq_append_getElem (by omega), List.foldl_append]
            rfl
          go_roundw
          case rel =>
            refine ⟨j + 1, by go_num, by omega, ?_, (((hk2.set1 (i := 0) _).set1 (i := 1) _).set1 (i := 2) _).set1 (i := 3) _⟩
            rw [hnx]
            exact (((hb3.set_ 0 _).set_ 1 _).set_ 2 _).set_ 3 _
          case measure => simp [intOf]; omega
      · obtain rfl : kk = j := by omega
        by_cases hl : kk < s.wait.length
        · have hA : ∃ g, A = some ⟨g, 0, none⟩ ∧ g ≠ b := by
            obtain ⟨g, cap', hv, _, _⟩ := hr.form (by omega)
            refine ⟨g, by simp at hv; exact hv.1, fun he => own_blk_ne hr hb (by decide) (by rw [hv, he]; rfl)⟩
          obtain ⟨g, rfl, hgb⟩ := hA
          have hrr := own_kept hr hkr (by simp [Value.ownBlock]; exact hgb)
          obtain ⟨f1, f2⟩ := flat_at s.wait kk (by omega)
          have g1 := (hrr.cellAt (kk * 2) (by omega)).trans f1
          have g2 := (hrr.cellAt (kk * 2 + 1) (by omega)).trans f2
          have hts := tearS_some (p := (s.wait.take kk).foldl apply s.kept) (torn := torn) hl
          have hfin : restartS s kk torn = ⟨tearS ((s.wait.take kk).foldl apply s.kept) s.wait kk torn, tearS ((s.wait.take kk).foldl apply s.kept) s.wait kk torn, [], -1, false⟩ := rfl
          rw [hts] at hfin
          have HF := Lib.hid hfin
          clear f1 f2 hts hfin
          have hsz := hdl s.wait[kk] (List.getElem_mem _)
          generalize s.wait[kk] = c at *
          obtain ⟨data, mv⟩ := c
          dsimp only at hsz
          cases mv
          · by_cases ht : 0 < torn ∧ 0 < data.size
            · obtain ⟨ht1, ht2⟩ := ht
              obtain ⟨tn, rfl⟩ := Int.eq_ofNat_of_zero_le (Int.le_of_lt ht1)
              have hltr := hbr.lt
              rcases Nat.lt_or_ge data.size tn with hcmp | hcmp
              · have hmin : min tn data.size = data.size := by omega
                have HM := Lib.hid hmin
                clear hmin
                go_wp2_with fail
                go_region_with (first | (go_at_call 55; refine (apply_x _ _ _ _ _ _ _).mono ?_; rintro e w2 ⟨rfl, hb2⟩; have hb3 : Blk w2 b 111 (cells { s with kept := (s.wait.take kk).foldl apply s.kept } (.slice (some ⟨g, 0, none⟩) s.wait.length cap)) := Blk.below (by exact hbr.drew) hb2 (by simp; omega); have hc2 := hb3.cells; have hf2 := hb3.frozens; unfold Dk.cells at hc2; dsimp only at hc2))
                all_goals
                  go_wp2_with fail
                  go_end0
                  have hk2 : Kept (fun x => x = b) w w2 := (hkr.drew).thenB hb2
                  refine ⟨rfl, .slice none 0 0, ⟨?_, World.ownsRow_nil _ _ _ _⟩, .inr (by simp [Value.ownBlock]), ?_⟩
                  · rw [HF.out, if_pos ⟨trivial, ht1, ht2⟩, Int.toNat_natCast, HM.out, extract_all]
                    exact Blk.cast (((((((((((hb3.set_ 0 _).set_ 1 _).set_ 2 _).set_ 3 _).set_ 4 _).set_ 5 _).set_ 6 _).set_ 7 _).set_ 8 _).set_ 10 _).set_ 9 _) (by simp [Dk.cells])
                  · exact (((((((((((hk2.set1 (i := 0) _).set1 (i := 1) _).set1 (i := 2) _).set1 (i := 3) _).set1 (i := 4) _).set1 (i := 5) _).set1 (i := 6) _).set1 (i := 7) _).set1 (i := 8) _).set1 (i := 10) _).set1 (i := 9) _).mono fun k hk => .inl hk
              · have hmin : min tn data.size = tn := by omega
                have HM := Lib.hid hmin
                clear hmin
                go_wp2_with fail
                go_region_with (first | (go_at_call 55; refine (apply_x _ _ _ _ _ _ _).mono ?_; rintro e w2 ⟨rfl, hb2⟩; have hb3 : Blk w2 b 111 (cells { s with kept := (s.wait.take kk).foldl apply s.kept } (.slice (some ⟨g, 0, none⟩) s.wait.length cap)) := Blk.below (by exact hbr.drew) hb2 (by simp; omega); have hc2 := hb3.cells; have hf2 := hb3.frozens; unfold Dk.cells at hc2; dsimp only at hc2))
                all_goals
                  go_wp2_with fail
                  go_end0
                  have hk2 : Kept (fun x => x = b) w w2 := (hkr.drew).thenB hb2
                  refine ⟨rfl, .slice none 0 0, ⟨?_, World.ownsRow_nil _ _ _ _⟩, .inr (by simp [Value.ownBlock]), ?_⟩
                  · rw [HF.out, if_pos ⟨trivial, ht1, ht2⟩, Int.toNat_natCast, HM.out]
                    exact Blk.cast (((((((((((hb3.set_ 0 _).set_ 1 _).set_ 2 _).set_ 3 _).set_ 4 _).set_ 5 _).set_ 6 _).set_ 7 _).set_ 8 _).set_ 10 _).set_ 9 _) (by simp [Dk.cells])
                  · exact (((((((((((hk2.set1 (i := 0) _).set1 (i := 1) _).set1 (i := 2) _).set1 (i := 3) _).set1 (i := 4) _).set1 (i := 5) _).set1 (i := 6) _).set1 (i := 7) _).set1 (i := 8) _).set1 (i := 10) _).set1 (i := 9) _).mono fun k hk => .inl hk
            · rcases Int.lt_trichotomy torn 0 with ht1 | ht1 | ht1
              · go_wp2_with fail
                go_end0
                refine ⟨rfl, .slice none 0 0, ⟨?_, World.ownsRow_nil _ _ _ _⟩, .inr (by simp [Value.ownBlock]), ?_⟩
                · rw [HF.out, if_neg (by simp; omega)]
                  exact Blk.cast (((((((hbr.set_ 4 _).set_ 5 _).set_ 6 _).set_ 7 _).set_ 8 _).set_ 10 _).set_ 9 _) (by simp [Dk.cells])
                · exact (((((((hkr.set1 (i := 4) _).set1 (i := 5) _).set1 (i := 6) _).set1 (i := 7) _).set1 (i := 8) _).set1 (i := 10) _).set1 (i := 9) _).mono fun k hk => .inl hk
              · subst ht1
                go_wp2_with fail
                go_end0
                refine ⟨rfl, .slice none 0 0, ⟨?_, World.ownsRow_nil _ _ _ _⟩, .inr (by simp [Value.ownBlock]), ?_⟩
                · rw [HF.out, if_neg (by simp)]
                  exact Blk.cast (((((((hbr.set_ 4 _).set_ 5 _).set_ 6 _).set_ 7 _).set_ 8 _).set_ 10 _).set_ 9 _) (by simp [Dk.cells])
                · exact (((((((hkr.set1 (i := 4) _).set1 (i := 5) _).set1 (i := 6) _).set1 (i := 7) _).set1 (i := 8) _).set1 (i := 10) _).set1 (i := 9) _).mono fun k hk => .inl hk
              · have hz : data.size = 0 := by omega
                have hzz : data = noText := by
                  apply ByteArray.ext
                  exact Array.eq_empty_of_size_eq_zero hz
                subst hzz
                unfold noText at *
                have hsz2 : (ByteArray.mk #[]).size = 0 := rfl
                go_wp2_with fail
                go_end0
                refine ⟨rfl, .slice none 0 0, ⟨?_, World.ownsRow_nil _ _ _ _⟩, .inr (by simp [Value.ownBlock]), ?_⟩
                · rw [HF.out, if_neg (fun h => absurd h.2.2 (by decide))]
                  exact Blk.cast (((((((hbr.set_ 4 _).set_ 5 _).set_ 6 _).set_ 7 _).set_ 8 _).set_ 10 _).set_ 9 _) (by simp [Dk.cells])
                · exact (((((((hkr.set1 (i := 4) _).set1 (i := 5) _).set1 (i := 6) _).set1 (i := 7) _).set1 (i := 8) _).set1 (i := 10) _).set1 (i := 9) _).mono fun k hk => .inl hk
          · go_wp2_with fail
            go_end0
            refine ⟨rfl, .slice none 0 0, ⟨?_, World.ownsRow_nil _ _ _ _⟩, .inr (by simp [Value.ownBlock]), ?_⟩
            · rw [HF.out, if_neg (by simp)]
              exact Blk.cast (((((((hbr.set_ 4 _).set_ 5 _).set_ 6 _).set_ 7 _).set_ 8 _).set_ 10 _).set_ 9 _) (by simp [Dk.cells])
            · exact (((((((hkr.set1 (i := 4) _).set1 (i := 5) _).set1 (i := 6) _).set1 (i := 7) _).set1 (i := 8) _).set1 (i := 10) _).set1 (i := 9) _).mono fun k hk => .inl hk
        · go_wp2_with fail
          go_end0
          refine ⟨rfl, .slice none 0 0, ⟨?_, World.ownsRow_nil _ _ _ _⟩, .inr (by simp [Value.ownBlock]), ?_⟩
          · have hfin : restartS s kk torn = ⟨(s.wait.take kk).foldl apply s.kept, (s.wait.take kk).foldl apply s.kept, [], -1, false⟩ := by simp only [restartS, lateS, tearS_none (Nat.le_of_not_lt hl)]
            rw [hfin]
            exact Blk.cast (((((((hbr.set_ 4 _).set_ 5 _).set_ 6 _).set_ 7 _).set_ 8 _).set_ 10 _).set_ 9 _) (by simp [Dk.cells])
          · exact (((((((hkr.set1 (i := 4) _).set1 (i := 5) _).set1 (i := 6) _).set1 (i := 7) _).set1 (i := 8) _).set1 (i := 10) _).set1 (i := 9) _).mono fun k hk => .inl hk
end Go.Proofs.YticmfflnenoplacGreatDoor.DkP
namespace Go.Proofs.YticmfflnenoplacGreatDoor.DkP
open Go.RowKit Dk

theorem OpPost.of_eq {T e : TypeId} {b : Nat} {wv : Value} {w : World} {v v' : Value} {s s' : St} {en : Ending} {w' : World} (h : OpPost T e b wv w v s en w') (hv : v = v') (hs : s = s') : OpPost T e b wv w v' s' en w' := by
  subst hv hs; exact h

theorem write_any (s : St) (t : ByteArray) (b : Nat) (wv : Value) (w : World) (hfu : -1 ≤ s.fuse) (hfu2 : s.fuse ≤ 9223372036854775807) (ht : t.size ≤ 9223372036854775807) (hwl : s.wait.length ≤ 1000) (h : Is 111 123 w b wv s) :
    Calls Tryz.prog 48 #[.pointer (some ⟨b, 0, none⟩), .string t] w (OpPost 111 123 b wv w (V (writeS s t).1) (writeS s t).2) := by
  by_cases hl : 6000 < t.size
  · exact (write_long s t b wv w ht hl h).mono fun _ _ hh => OpPost.of_eq hh (by simp [writeS, hl]; rfl) (by simp [writeS, hl])
  · refine (write_short s t b wv w hfu hfu2 (by omega) hwl h).mono fun _ _ hh => OpPost.of_eq hh ?_ (by simp [writeS, hl])
    cases hd : dead s <;> simp [writeS, hl, doS, hd] <;> rfl

theorem move_any (s : St) (b : Nat) (wv : Value) (w : World) (hfu : -1 ≤ s.fuse) (hfu2 : s.fuse ≤ 9223372036854775807) (hwl : s.wait.length ≤ 1000) (h : Is 111 123 w b wv s) :
    Calls Tryz.prog 50 #[.pointer (some ⟨b, 0, none⟩)] w (OpPost 111 123 b wv w (V (moveS s).1) (moveS s).2) := by
  cases hl : s.now.drafted
  · exact (move_none s b wv w hl h).mono fun _ _ hh => OpPost.of_eq hh (by simp [moveS, hl]; rfl) (by simp [moveS, hl])
  · refine (move_some s b wv w hfu hfu2 hl hwl h).mono fun _ _ hh => OpPost.of_eq hh ?_ (by simp [moveS, hl])
    cases hd : dead s <;> simp [moveS, hl, doS, hd] <;> rfl

theorem sync_any (s : St) (b : Nat) (wv : Value) (w : World) (hfu : -1 ≤ s.fuse) (hfu2 : s.fuse ≤ 9223372036854775807) (h : Is 111 123 w b wv s) :
    Calls Tryz.prog 49 #[.pointer (some ⟨b, 0, none⟩)] w (OpPost 111 123 b wv w (V (syncS s).1) (syncS s).2) := by
  cases hd : dead s
  · exact (sync_ok s b wv w hfu hfu2 h hd).mono fun _ _ hh => OpPost.of_eq hh (by rw [syncS_ok hd]; rfl) (by rw [syncS_ok hd])
  · exact (sync_dead s b wv w h hd).mono fun _ _ hh => OpPost.of_eq hh (by rw [syncS_dead hd]; rfl) (by rw [syncS_dead hd])

theorem step_any (s : St) (b : Nat) (wv : Value) (w : World) (hfu : -1 ≤ s.fuse) (hfu2 : s.fuse ≤ 9223372036854775807) (h : Is 111 123 w b wv s) :
    Calls Tryz.prog 97 #[.pointer (some ⟨b, 0, none⟩)] w (OpPost 111 123 b wv w (V (stepS s).1) (stepS s).2) := by
  cases hd : dead s
  · exact (step_ok s b wv w hfu hfu2 h hd).mono fun _ _ hh => OpPost.of_eq hh (by rw [stepS_ok hd]; rfl) (by rw [stepS_ok hd])
  · exact (step_dead s b wv w h hd).mono fun _ _ hh => OpPost.of_eq hh (by rw [stepS_dead hd]; rfl) (by rw [stepS_dead hd])

theorem restart_all (s : St) (keep torn : Int) (b : Nat) (wv : Value) (w : World) (hwl : s.wait.length ≤ 1000) (h : Is 111 123 w b wv s) (hdl : ∀ c ∈ s.wait, c.data.size ≤ 6000) :
    Calls Tryz.prog 19 #[.pointer (some ⟨b, 0, none⟩), .int .i64 keep, .int .i64 torn] w (OpPost 111 123 b wv w (.tuple #[]) (restartS s (kOf keep s.wait.length) torn)) :=
  restart_any s keep torn _ b wv w hwl h hdl (kOf_spec keep s.wait.length)
end Go.Proofs.YticmfflnenoplacGreatDoor.DkP
namespace Go.Proofs.YticmfflnenoplacGreatDoor
open Go.RowKit Dk
set_option maxHeartbeats 400000 in
theorem DkP.arm_any (s : St) (n : Int) (b : Nat) (wv : Value) (w : World) (h : Is 111 123 w b wv s) :
    Calls Tryz.prog 16 #[.pointer (some ⟨b, 0, none⟩), .int .i64 n] w (OpPost 111 123 b wv w (.tuple #[]) (armS s n)) := by
  have hb := h.blk
  have hc := hb.cells
  have hf := hb.frozens
  unfold Dk.cells at hc
  by_cases hn : n < -1
  · go_enter Tryz.func16, Tryz.ntmps16
    go_wp2
    go_end0
    refine ⟨rfl, h.step ?_ rfl ((Kept.refl _ _).set1 _) (by decide)⟩
    have := hb.set_ 9 (.int .i64 (-1))
    simpa [Dk.cells, armS, show max n (-1) = -1 from by omega] using this
  · go_enter Tryz.func16, Tryz.ntmps16
    go_wp2
    go_end0
    refine ⟨rfl, h.step ?_ rfl ((Kept.refl _ _).set1 _) (by decide)⟩
    have := hb.set_ 9 (.int .i64 n)
    simpa [Dk.cells, armS, show max n (-1) = n from by omega] using this

end Go.Proofs.YticmfflnenoplacGreatDoor
namespace Go.Proofs.YticmfflnenoplacGreatDoor
open Go.RowKit Dk
/-- A state in which no number is out of bounds. -/
structure Fine (k : Nat) (s : St) : Prop where
  f1 : -1 ≤ s.fuse
  f2 : s.fuse ≤ 9223372036854775807
  f3 : s.wait.length ≤ k
  f4 : ∀ c ∈ s.wait, c.data.size ≤ 6000
theorem Fine.new : Fine 0 Dk.new := ⟨by simp [Dk.new], by simp [Dk.new], by simp [Dk.new], by simp [Dk.new]⟩
theorem Fine.more {k k' : Nat} {s : St} (h : Fine k s) (hk : k ≤ k') : Fine k' s := ⟨h.f1, h.f2, Nat.le_trans h.f3 hk, h.f4⟩
theorem Fine.stepOk {k : Nat} {s : St} (h : Fine k s) : Fine k (Dk.stepOk s) := by
  refine ⟨?_, ?_, h.f3, h.f4⟩
  all_goals
    have h1 := h.f1
    have h2 := h.f2
    simp only [Dk.stepOk]
    split <;> omega
theorem Fine.stepDead {k : Nat} {s : St} (h : Fine k s) : Fine k (Dk.stepDead s) := by
  refine ⟨?_, ?_, h.f3, h.f4⟩
  all_goals
    have h1 := h.f1
    have h2 := h.f2
    simp only [Dk.stepDead]
    split <;> omega
theorem Fine.doS {k : Nat} {s : St} (h : Fine k s) {c : Change} (hc : c.data.size ≤ 6000) : Fine (k + 1) (Dk.doS s c).2 := by
  unfold Dk.doS
  split
  · exact h.stepDead.more (by omega)
  · have := h.stepOk
    refine ⟨this.f1, this.f2, ?_, ?_⟩
    · have := h.f3
      simp; omega
    · intro x hx
      simp only [List.mem_append, List.mem_singleton] at hx
      rcases hx with hx | rfl
      · exact h.f4 x hx
      · exact hc
theorem Fine.writeS {k : Nat} {s : St} (h : Fine k s) (t : ByteArray) : Fine (k + 1) (Dk.writeS s t).2 := by
  unfold Dk.writeS
  split
  · exact h.more (by omega)
  · exact h.doS (by simp; omega)
theorem Fine.moveS {k : Nat} {s : St} (h : Fine k s) : Fine (k + 1) (Dk.moveS s).2 := by
  unfold Dk.moveS
  split
  · exact h.doS (by decide)
  · exact h.more (by omega)
theorem Fine.syncS {k : Nat} {s : St} (h : Fine k s) : Fine (k + 1) (Dk.syncS s).2 := by
  unfold Dk.syncS
  split
  · exact h.stepDead.more (by omega)
  · have := h.stepOk
    exact ⟨this.f1, this.f2, by simp, by simp⟩
theorem Fine.stepS {k : Nat} {s : St} (h : Fine k s) : Fine (k + 1) (Dk.stepS s).2 := by
  unfold Dk.stepS
  split
  · exact h.stepDead.more (by omega)
  · exact h.stepOk.more (by omega)
theorem Fine.armS {k : Nat} {s : St} (h : Fine k s) {n : Int} (hn : n ≤ 9223372036854775807) : Fine (k + 1) (Dk.armS s n) :=
  ⟨by simp only [Dk.armS]; omega, by simp only [Dk.armS]; omega, Nat.le_trans h.f3 (by omega), h.f4⟩
theorem Fine.spoilS {k : Nat} {s : St} (h : Fine k s) (t : ByteArray) : Fine (k + 1) (Dk.spoilS s t) := by
  unfold Dk.spoilS
  split
  · exact ⟨h.f1, h.f2, Nat.le_trans h.f3 (by omega), h.f4⟩
  · exact h.more (by omega)
theorem Fine.restartS {k : Nat} {s : St} (j : Nat) (torn : Int) : Fine (k + 1) (Dk.restartS s j torn) := ⟨by simp [Dk.restartS], by simp [Dk.restartS], by simp [Dk.restartS], by simp [Dk.restartS]⟩
theorem nums_ok (s : St) (t : ByteArray) : 0 ≤ (Dk.writeS s t).1 ∧ 0 ≤ (Dk.moveS s).1 ∧ 0 ≤ (Dk.syncS s).1 ∧ 0 ≤ (Dk.stepS s).1 ∧ 0 ≤ (Dk.readS s).2 := by
  refine ⟨?_, ?_, ?_, ?_, ?_⟩
  · simp only [Dk.writeS, Dk.doS]; repeat' split
    all_goals simp
  · simp only [Dk.moveS, Dk.doS]; repeat' split
    all_goals simp
  · simp only [Dk.syncS]; repeat' split
    all_goals simp
  · simp only [Dk.stepS]; repeat' split
    all_goals simp
  · simp only [Dk.readS]; repeat' split
    all_goals simp
end Go.Proofs.YticmfflnenoplacGreatDoor
