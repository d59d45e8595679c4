/- Texts laid together: Data, QosA, Pop, BiA, AmA, AmB, BiP, SvA, Flo, Comm, Sl, PopB. No statement is proved here. -/
import Derived.Deep.Slices
import Derived.ChangeArms
import Derived.OpenShut
import Derived.ProofKit
import Derived.WalkKit
import Derived.Lib.TrailingZeros
import Derived.Lib.ItoaNum
import Derived.Lib.Join
import Derived.Lib.IndexMore
import Derived.Lib.IndexBytes
import Derived.Lib.Strings
import Derived.Lib.AtoiAllCases
import Derived.Lib.SplitLaws
import Derived.WideShapes
import Derived.Lib.AtoiAll
import Derived.StillTail
import Derived.Laws.BitsAllLaws
import Derived.Laws.ShiftsVarLaws
import Derived.Laws.Bits128
import Derived.Shelf.Abstract
import Derived.Test.YticmfflnenoplacGreatDoorQ01
namespace Go.Proofs.YticmfflnenoplacGreatDoor
open Go.RowKit Go.Deep

namespace Da
structure Need where
  kind : ByteArray
  many : Int
structure Cont where
  name : ByteArray
  askM : Int
  askB : Int
  capM : Int
  capB : Int
  devs : List Need
structure Pod where
  name : ByteArray
  prio : Int
  conts : List Cont
structure Use where
  name : ByteArray
  bytes : Int
structure LAct where
  kind : ByteArray
  s : ByteArray
  a : Int
  b : Int
  m : Int
  l : List Int
  pod : Pod
  uses : List Use
end Da
open Da

/-- A slice whose elements have C cells each and read by R; all its cells lie below block B. -/
def RSlice {α : Type} (w : World) (B C : Nat) (R : List Value → α → Prop) (cs : List Value) (l : List α) : Prop :=
  ∃ A cap, cs = [.slice A l.length cap] ∧ l.length ≤ cap ∧ cap ≤ maxLen ∧
    (l.length = 0 ∨ ∃ b off, A = some ⟨b, off, none⟩ ∧ b < B ∧ ∀ i (h : i < l.length), ∃ cs', cs'.length = C ∧ (∀ j u, cs'[j]? = some u → w.cell? ⟨b, off + i * C + j, none⟩ = some u) ∧ R cs' l[i])
def RStr (cs : List Value) (s : ByteArray) : Prop := cs = [.string s] ∧ s.size ≤ maxLen
def RInt (cs : List Value) (n : Int) : Prop := cs = [.int .i64 n] ∧ -9223372036854775808 ≤ n ∧ n ≤ 9223372036854775807
def RNeed (cs : List Value) (n : Need) : Prop := cs = [.string n.kind, .int .i64 n.many] ∧ n.kind.size ≤ maxLen ∧ -9223372036854775808 ≤ n.many ∧ n.many ≤ 9223372036854775807
def RCont (w : World) (B : Nat) (cs : List Value) (c : Cont) : Prop :=
  ∃ dv, cs = [.string c.name, .int .i64 c.askM, .int .i64 c.askB, .int .i64 c.capM, .int .i64 c.capB, dv] ∧ c.name.size ≤ maxLen ∧
    (-9223372036854775808 ≤ c.askM ∧ c.askM ≤ 9223372036854775807) ∧ (-9223372036854775808 ≤ c.askB ∧ c.askB ≤ 9223372036854775807) ∧
    (-9223372036854775808 ≤ c.capM ∧ c.capM ≤ 9223372036854775807) ∧ (-9223372036854775808 ≤ c.capB ∧ c.capB ≤ 9223372036854775807) ∧ RSlice w B 2 RNeed [dv] c.devs
def RPod (w : World) (B : Nat) (cs : List Value) (p : Pod) : Prop :=
  ∃ cv, cs = [.string p.name, .int .i64 p.prio, cv] ∧ p.name.size ≤ maxLen ∧ (-9223372036854775808 ≤ p.prio ∧ p.prio ≤ 9223372036854775807) ∧ RSlice w B 6 (RCont w B) [cv] p.conts
def RUse (cs : List Value) (u : Use) : Prop := cs = [.string u.name, .int .i64 u.bytes] ∧ u.name.size ≤ maxLen ∧ -9223372036854775808 ≤ u.bytes ∧ u.bytes ≤ 9223372036854775807
def RAct (w : World) (B : Nat) (cs : List Value) (a : LAct) : Prop :=
  ∃ lv p0 p1 p2 uv, cs = [.string a.kind, .string a.s, .int .i64 a.a, .int .i64 a.b, .int .u8 a.m, lv, p0, p1, p2, uv] ∧ a.kind.size ≤ maxLen ∧ a.s.size ≤ maxLen ∧
    (-9223372036854775808 ≤ a.a ∧ a.a ≤ 9223372036854775807) ∧ (-9223372036854775808 ≤ a.b ∧ a.b ≤ 9223372036854775807) ∧ (0 ≤ a.m ∧ a.m ≤ 255) ∧
    RSlice w B 1 RInt [lv] a.l ∧ RPod w B [p0, p1, p2] a.pod ∧ RSlice w B 2 RUse [uv] a.uses

section
variable {α : Type} {w w' : World} {B C : Nat} {R R' : List Value → α → Prop} {cs : List Value} {l : List α}
theorem RSlice.mono (h : RSlice w B C R cs l) (hR : ∀ cs x, R cs x → R' cs x) : RSlice w B C R' cs l := by
  obtain ⟨A, cap, h1, h2, h3, h4⟩ := h
  refine ⟨A, cap, h1, h2, h3, ?_⟩
  rcases h4 with h4 | ⟨b, off, hA, hb, h4⟩
  · exact .inl h4
  · refine .inr ⟨b, off, hA, hb, fun i hi => ?_⟩
    obtain ⟨cs', hl, hc, hr⟩ := h4 i hi
    exact ⟨cs', hl, hc, hR _ _ hr⟩
theorem RSlice.below (h : RSlice w B C R cs l) (hb : Below B w w') : RSlice w' B C R cs l := by
  obtain ⟨A, cap, h1, h2, h3, h4⟩ := h
  refine ⟨A, cap, h1, h2, h3, ?_⟩
  rcases h4 with h4 | ⟨b, off, hA, hlt, h4⟩
  · exact .inl h4
  · refine .inr ⟨b, off, hA, hlt, fun i hi => ?_⟩
    obtain ⟨cs', hl, hc, hr⟩ := h4 i hi
    exact ⟨cs', hl, fun j u hu => (hb.cell (p := ⟨b, off + i * C + j, none⟩) hlt).trans (hc j u hu), hr⟩
/-- What a walk needs of a slice: its value, and at an index the cells of that element. -/
theorem RSlice.form (h : RSlice w B C R cs l) : ∃ A cap, cs = [.slice A l.length cap] ∧ l.length ≤ cap ∧ cap ≤ maxLen ∧ (∀ k, k < l.length → ∃ b off, A = some ⟨b, off, none⟩) := by
  obtain ⟨A, cap, h1, h2, h3, h4⟩ := h
  refine ⟨A, cap, h1, h2, h3, fun k hk => ?_⟩
  rcases h4 with h4 | ⟨b, off, hA, _, _⟩
  · omega
  · exact ⟨b, off, hA⟩
theorem RSlice.at_ {b off n cap : Nat} (h : RSlice w B C R [.slice (some ⟨b, off, none⟩) n cap] l) {i : Nat} (hi : i < l.length) :
    b < B ∧ ∃ cs', cs'.length = C ∧ (∀ j u, cs'[j]? = some u → w.cell? ⟨b, off + i * C + j, none⟩ = some u) ∧ R cs' l[i] := by
  obtain ⟨A, cap', h1, h2, h3, h4⟩ := h
  rcases h4 with h4 | ⟨b', off', hA, hlt, h4⟩
  · omega
  · simp only [List.cons.injEq, Value.slice.injEq, and_true] at h1
    obtain ⟨hA', _⟩ := h1
    rw [hA] at hA'
    simp only [Option.some.injEq, Addr.mk.injEq, and_true] at hA'
    obtain ⟨rfl, rfl⟩ := hA'
    exact ⟨hlt, h4 i hi⟩
end
theorem RCont.below {w w' : World} {B : Nat} {cs : List Value} {c : Cont} (h : RCont w B cs c) (hb : Below B w w') : RCont w' B cs c := by
  obtain ⟨dv, h1, h2, h3, h4, h5, h6, h7⟩ := h
  exact ⟨dv, h1, h2, h3, h4, h5, h6, h7.below hb⟩
theorem RPod.below {w w' : World} {B : Nat} {cs : List Value} {p : Pod} (h : RPod w B cs p) (hb : Below B w w') : RPod w' B cs p := by
  obtain ⟨cv, h1, h2, h3, h4⟩ := h
  exact ⟨cv, h1, h2, h3, (h4.mono fun _ _ h => h.below hb).below hb⟩
theorem RAct.below {w w' : World} {B : Nat} {cs : List Value} {a : LAct} (h : RAct w B cs a) (hb : Below B w w') : RAct w' B cs a := by
  obtain ⟨lv, p0, p1, p2, uv, h1, h2, h3, h4, h5, h6, h7, h8, h9⟩ := h
  exact ⟨lv, p0, p1, p2, uv, h1, h2, h3, h4, h5, h6, h7.below hb, h8.below hb, h9.below hb⟩

/-! ### Out of the form's own reading -/
section
variable {H : Type} {enc : TypeId × Value → H} {w : World} {spare : Nat → Bool} {held : Bool}
theorem i64_bounds {n : Int} (h : (Lit.int .i64 n).wf = true) : -9223372036854775808 ≤ n ∧ n ≤ 9223372036854775807 := bounds_i64 h
theorem add_spot {a : Addr} {v : Value} (h : w.cell? (a.add 0) = some v) : a.spot = none := by
  simpa [Addr.add] using World.cell?_spot h
theorem add_mk (b off n : Nat) : (⟨b, off, none⟩ : Addr).add n = ⟨b, off + n, none⟩ := by
  unfold Addr.add
  split
  · subst_vars; simp
  · rfl
theorem rslice_of {α : Type} {P : Program} {t e : TypeId} {C : Nat} {R : List Value → α → Prop} (ht : P.underlying t = some (.slice e)) (hC : P.cellsOf e = C) (hpos : 0 < C)
    (hR : ∀ fuel cs x, DataW.trod enc P w 0 spare held fuel e cs = some x → ∃ y, R cs y) {fuel : Nat} {cs : List Value} {x : DataW H × List MemPlace} (h : DataW.trod enc P w 0 spare held fuel t cs = some x) :
    ∃ l, RSlice w w.heap.size C R cs l := by
  rcases open_slice ht h with ⟨h0, _⟩ | ⟨a, len, cap, m, n, D, Pl, hcs, hb, hl, hm, hmm, hx, hi⟩
  · exact ⟨[], none, 0, by rw [h0]; rfl, by simp, by simp [maxLen], .inl rfl⟩
  · have hlm : len ≤ m := by rw [hmm]; split <;> omega
    by_cases hz : len = 0
    · subst hz
      exact ⟨[], some a, cap, by rw [hcs]; rfl, by simp, hm, .inl rfl⟩
    · have key : ∀ i, i < len → ∃ y, ∃ cs', cs'.length = C ∧ (∀ j u, cs'[j]? = some u → w.cell? (a.add (i * C + j)) = some u) ∧ R cs' y := by
        intro i hlt
        obtain ⟨cs', hc, htr⟩ := hi i (by omega)
        rw [hC] at hc
        obtain ⟨_, hcl, hat⟩ := World.cells?_some hc
        obtain ⟨y, hy⟩ := hR _ _ _ htr
        refine ⟨y, cs', hcl, fun j u hu => ?_, hy⟩
        have hj : j < C := by
          have := (List.getElem?_eq_some_iff.1 hu).1
          omega
        have := hat j hj
        rw [add_add] at this
        rw [this, hu]
      have : Inhabited α := ⟨(key 0 (by omega)).choose⟩
      obtain ⟨Y, hY⟩ := choose_lt (α := α) key
      have hspot : a.spot = none := by
        obtain ⟨cs', h1, h2, _⟩ := hY 0 (by omega)
        have : cs'[0]? = some cs'[0] := List.getElem?_eq_getElem (by omega)
        exact add_spot (by simpa using h2 0 _ this)
      obtain ⟨b, off, sp⟩ := a
      simp only at hspot
      subst hspot
      have hlt : b < w.heap.size := by
        obtain ⟨cs', h1, h2, _⟩ := hY 0 (by omega)
        have : cs'[0]? = some cs'[0] := List.getElem?_eq_getElem (by omega)
        have := h2 0 _ this
        rw [add_mk] at this
        exact World.block_lt_of_cell? w _ this
      refine ⟨(List.range len).map Y, some ⟨b, off, none⟩, cap, by rw [hcs]; simp, by simpa using hl, hm, .inr ⟨b, off, rfl, hlt, fun i hi' => ?_⟩⟩
      have hi2 : i < len := by simpa using hi'
      obtain ⟨cs', h1, h2, h3⟩ := hY i hi2
      refine ⟨cs', h1, fun j u hu => ?_, by simpa using h3⟩
      have := h2 j u hu
      rw [add_mk] at this
      rw [← this]
      congr 2
      omega
end
end Go.Proofs.YticmfflnenoplacGreatDoor
namespace Go.Proofs.YticmfflnenoplacGreatDoor
namespace Qo
open Da
/-- The first of a function's values that is no 0. -/
def firstF (f : Nat → Int) : Nat → Int
  | 0 => 0
  | k + 1 => if firstF f k = 0 then f k else firstF f k
theorem firstF_zero {f : Nat → Int} {k : Nat} (h : ∀ j, j < k → f j = 0) : firstF f k = 0 := by
  induction k with
  | zero => rfl
  | succ k ih => rw [firstF, if_pos (ih fun j hj => h j (by omega)), h k (by omega)]
theorem firstF_stop {f : Nat → Int} {k n : Nat} (h : ∀ j, j < k → f j = 0) (hk : k < n) (hf : f k ≠ 0) : firstF f n = f k := by
  have h1 : firstF f (k + 1) = f k := by rw [firstF, if_pos (firstF_zero h)]
  induction n with
  | zero => omega
  | succ n ih =>
    by_cases he : k = n
    · subst he; exact h1
    · rw [firstF, ih (by omega), if_neg hf]
theorem firstF_all {f : Nat → Int} {n : Nat} (h : firstF f n = 0) : ∀ j, j < n → f j = 0 := by
  induction n with
  | zero => intro j hj; omega
  | succ n ih =>
    rw [firstF] at h
    split at h
    · rename_i h0
      intro j hj
      by_cases he : j = n
      · rw [he]; exact h
      · exact ih h0 j (by omega)
    · exact absurd h (by assumption)
/-! ### Names -/
def byteAt (s : ByteArray) (i : Nat) : Nat := if h : i < s.size then s[i].toNat else 0
theorem byteAt_eq (s : ByteArray) (i : Nat) (h : i < s.size) : byteAt s i = s[i].toNat := by simp [byteAt, h]
def okAt (s : ByteArray) (i : Nat) : Bool := (decide (97 ≤ byteAt s i) && decide (byteAt s i ≤ 122)) || (decide (0 < i) && decide (48 ≤ byteAt s i) && decide (byteAt s i ≤ 57))
def nameMay (s : ByteArray) : Bool := decide (1 ≤ s.size) && decide (s.size ≤ 8) && (List.range s.size).all (okAt s)
theorem nameMay_no (s : ByteArray) (k : Nat) (h : k < s.size) (hk : okAt s k = false) : nameMay s = false := by
  have : (List.range s.size).all (okAt s) = false := by
    rw [List.all_eq_false]
    exact ⟨k, List.mem_range.2 h, by simp [hk]⟩
  simp [nameMay, this]
theorem nameMay_len (s : ByteArray) (h : s.size < 1 ∨ 8 < s.size) : nameMay s = false := by
  rcases h with h | h <;> simp [nameMay] <;> omega
theorem nameMay_yes (s : ByteArray) (h1 : 1 ≤ s.size) (h2 : s.size ≤ 8) (h : ∀ j, j < s.size → okAt s j = true) : nameMay s = true := by
  simp only [nameMay, h1, h2, decide_true, Bool.true_and]
  rw [List.all_eq_true]
  intro j hj
  exact h j (List.mem_range.1 hj)
/-! ### What is wrong with a pod -/
def amtBad (m b : Int) : Bool := decide (m < 0) || decide (1000000 < m) || decide (b < 0) || decide (1125899906842624 < b)
def amtF (m b : Int) : Int := if amtBad m b then 1 else 0
theorem amtF_yes {m b : Int} (h : amtBad m b = true) : amtF m b = 1 := by simp [amtF, h]
theorem amtF_no {m b : Int} (h : amtBad m b = false) : amtF m b = 0 := by simp [amtF, h]
def lessS (a b : ByteArray) : Bool := Op.bytesLess a.toList b.toList
theorem lessS_eq (a b : ByteArray) : lessS a b = Op.bytesLess a.toList b.toList := rfl
def sameS (a b : ByteArray) : Bool := a.toList == b.toList
def needBad (l : List Need) (k : Nat) (n : Need) : Bool := !nameMay n.kind || (decide (0 < k) && (match l[k - 1]? with | some m => !lessS m.kind n.kind | none => false))
def needFault (l : List Need) (k : Nat) : Int :=
  match l[k]? with
  | none => 0
  | some n => if needBad l k n then 3 else if n.many < 1 ∨ 16 < n.many then 1 else 0
def shapeBad (c : Cont) : Bool := (decide (0 < c.capM) && decide (c.capM < c.askM)) || (decide (0 < c.capB) && decide (c.capB < c.askB))
def contFault (c : Cont) : Int :=
  if amtBad c.askM c.askB || amtBad c.capM c.capB then 1 else if shapeBad c then 3 else if 3 < c.devs.length then 2 else firstF (needFault c.devs) c.devs.length
def twice (l : List Cont) (k : Nat) (s : ByteArray) : Bool := (l.take k).any fun d => sameS d.name s
def atFault (l : List Cont) (k : Nat) : Int :=
  match l[k]? with
  | none => 0
  | some c => if !nameMay c.name then 3 else if twice l k c.name then 5 else contFault c
def podFault (p : Pod) : Int :=
  if !nameMay p.name then 3 else if p.prio < 0 ∨ 1000 < p.prio then 1 else if p.conts.length < 1 ∨ 3 < p.conts.length then 2 else firstF (atFault p.conts) p.conts.length
theorem needFault_at (l : List Need) (k : Nat) (h : k < l.length) : needFault l k = if needBad l k l[k] then 3 else if l[k].many < 1 ∨ 16 < l[k].many then 1 else 0 := by
  simp [needFault, List.getElem?_eq_getElem h]
theorem needFault_bad (l : List Need) (k : Nat) (h : k < l.length) (hb : needBad l k l[k] = true) : needFault l k = 3 := by
  rw [needFault_at l k h, hb]; rfl
theorem needFault_out (l : List Need) (k : Nat) (h : k < l.length) (hb : needBad l k l[k] = false) (ho : l[k].many < 1 ∨ 16 < l[k].many) : needFault l k = 1 := by
  rw [needFault_at l k h, hb, if_neg (by simp), if_pos ho]
theorem needFault_ok (l : List Need) (k : Nat) (h : k < l.length) (hb : needBad l k l[k] = false) (ho : 1 ≤ l[k].many ∧ l[k].many ≤ 16) : needFault l k = 0 := by
  rw [needFault_at l k h, hb, if_neg (by simp), if_neg (by omega)]
theorem needBad_zero (l : List Need) (n : Need) : needBad l 0 n = !nameMay n.kind := by simp [needBad]
theorem needBad_succ (l : List Need) (k : Nat) (h : k < l.length) (n : Need) : needBad l (k + 1) n = (!nameMay n.kind || !lessS l[k].kind n.kind) := by
  simp [needBad, List.getElem?_eq_getElem h]
theorem atFault_at (l : List Cont) (k : Nat) (h : k < l.length) : atFault l k = if !nameMay l[k].name then 3 else if twice l k l[k].name then 5 else contFault l[k] := by
  simp [atFault, List.getElem?_eq_getElem h]
theorem twice_zero (l : List Cont) (s : ByteArray) : twice l 0 s = false := by simp [twice]
theorem twice_next (l : List Cont) (k : Nat) (h : k < l.length) (s : ByteArray) : twice l (k + 1) s = (twice l k s || sameS l[k].name s) := by
  unfold twice
  rw [List.take_succ_eq_append_getElem h, List.any_append]
  simp
theorem twice_mono (l : List Cont) (j k : Nat) (h : j ≤ k) (s : ByteArray) (ht : twice l j s = true) : twice l k s = true := by
  unfold twice at *
  rw [List.any_eq_true] at *
  obtain ⟨x, hx, hy⟩ := ht
  exact ⟨x, List.take_subset_take_left l h hx, hy⟩
theorem needFault_01 (l : List Need) (k : Nat) : needFault l k = 0 ∨ needFault l k = 1 ∨ needFault l k = 3 := by
  unfold needFault
  split
  · simp
  · split
    · simp
    · split <;> simp
end Qo
end Go.Proofs.YticmfflnenoplacGreatDoor
namespace Go.Proofs.YticmfflnenoplacGreatDoor
namespace Pop
/-- Bit k of m. -/
def bit (m k : Nat) : Nat := m / 2 ^ k % 2
/-- How many bits below k. -/
def cnt (m : Nat) : Nat → Nat
  | 0 => 0
  | k + 1 => cnt m k + bit m k
def val : List Nat → Nat
  | [] => 0
  | b :: l => b + 256 * val l
def bytes : Nat → Nat → List Nat
  | _, 0 => []
  | x, n + 1 => (x % 256) :: bytes (x / 256) n
theorem bytes_len (x n : Nat) : (bytes x n).length = n := by
  induction n generalizing x with
  | zero => rfl
  | succ n ih => simp [bytes, ih]
theorem bytes_lt (x n : Nat) : ∀ b ∈ bytes x n, b < 256 := by
  induction n generalizing x with
  | zero => simp [bytes]
  | succ n ih =>
    intro b hb
    simp only [bytes, List.mem_cons] at hb
    rcases hb with rfl | hb
    · omega
    · exact ih _ b hb
theorem val_bytes (x n : Nat) (h : x < 256 ^ n) : val (bytes x n) = x := by
  induction n generalizing x with
  | zero => simp at h; simp [bytes, val, h]
  | succ n ih =>
    simp only [bytes, val]
    rw [ih (x / 256) (by rw [Nat.pow_succ] at h; omega)]
    omega
theorem bit_split (b y k : Nat) (hb : b < 256) : bit (b + 256 * y) k = if k < 8 then bit b k else bit y (k - 8) := by
  unfold bit
  split
  · rename_i h
    have : ∀ j : Fin 8, ∀ c : Fin 256, (c.val + 256 * y) / 2 ^ j.val % 2 = c.val / 2 ^ j.val % 2 := by
      intro j c
      obtain ⟨j, hj⟩ := j
      obtain ⟨c, hc⟩ := c
      rcases (show j = 0 ∨ j = 1 ∨ j = 2 ∨ j = 3 ∨ j = 4 ∨ j = 5 ∨ j = 6 ∨ j = 7 by omega) with rfl | rfl | rfl | rfl | rfl | rfl | rfl | rfl <;> (simp only [Nat.reducePow]; omega)
    exact this ⟨k, h⟩ ⟨b, hb⟩
  · rename_i h
    obtain ⟨j, rfl⟩ : ∃ j, k = 8 + j := ⟨k - 8, by omega⟩
    have e1 : (b + 256 * y) / 2 ^ 8 = y := by rw [show (2 : Nat) ^ 8 = 256 from rfl]; omega
    rw [Nat.pow_add, ← Nat.div_div_eq_div_mul, e1, show 8 + j - 8 = j by omega]
theorem cnt_split (b y k : Nat) (hb : b < 256) : cnt (b + 256 * y) (8 + k) = cnt b 8 + cnt y k := by
  induction k with
  | zero =>
    have h := fun k (hk : k < 8) => (bit_split b y k hb).trans (if_pos hk)
    simp only [Nat.add_zero, cnt]
    rw [h 0 (by omega), h 1 (by omega), h 2 (by omega), h 3 (by omega), h 4 (by omega), h 5 (by omega), h 6 (by omega), h 7 (by omega)]
  | succ k ih =>
    rw [← Nat.add_assoc]
    show cnt (b + 256 * y) (8 + k) + bit (b + 256 * y) (8 + k) = _
    rw [ih, bit_split b y _ hb, if_neg (by omega)]
    simp only [cnt]
    rw [show 8 + k - 8 = k by omega]
    omega
theorem cnt_val (l : List Nat) (h : ∀ b ∈ l, b < 256) : cnt (val l) (8 * l.length) = (l.map fun b => cnt b 8).sum := by
  induction l with
  | nil => rfl
  | cons b l ih =>
    simp only [List.length_cons, val, List.map_cons, List.sum_cons]
    rw [show 8 * (l.length + 1) = 8 + 8 * l.length by omega, cnt_split _ _ _ (h b (by simp)), ih fun c hc => h c (by simp [hc])]
theorem and_split (b y c z : Nat) (hb : b < 256) (hc : c < 256) : (b + 256 * y) &&& (c + 256 * z) = (b &&& c) + 256 * (y &&& z) := by
  have h1 : ∀ b y : Nat, b < 256 → b + 256 * y = (y <<< 8) ||| b := by
    intro b y hb
    rw [← Nat.shiftLeft_add_eq_or_of_lt (by simpa using hb), Nat.shiftLeft_eq]
    omega
  have h2 : b &&& c < 256 := Nat.lt_of_le_of_lt Nat.and_le_left hb
  rw [h1 b y hb, h1 c z hc, h1 _ _ h2]
  apply Nat.eq_of_testBit_eq
  intro i
  simp only [Nat.testBit_and, Nat.testBit_or, Nat.testBit_shiftLeft]
  by_cases hi : 8 ≤ i
  · have e1 : b.testBit i = false := Nat.testBit_lt_two_pow (Nat.lt_of_lt_of_le hb (by have := Nat.pow_le_pow_right (n := 2) (by omega) hi; simpa using this))
    have e2 : c.testBit i = false := Nat.testBit_lt_two_pow (Nat.lt_of_lt_of_le hc (by have := Nat.pow_le_pow_right (n := 2) (by omega) hi; simpa using this))
    simp [hi, e1, e2]
  · simp [hi]
theorem and_val (l : List Nat) (c : Nat) (hc : c < 256) (h : ∀ b ∈ l, b < 256) : val l &&& val (List.replicate l.length c) = val (l.map (· &&& c)) := by
  induction l with
  | nil => simp [val]
  | cons b l ih =>
    simp only [List.length_cons, List.replicate_succ, val, List.map_cons]
    rw [and_split _ _ _ _ (h b (by simp)) hc, ih fun d hd => h d (by simp [hd])]
theorem t1 : ∀ d : Fin 256, ∀ e : Fin 2, (d.val / 2 + 128 * e.val) &&& 85 = d.val / 2 &&& 85 := by decide +kernel
theorem t2 : ∀ d : Fin 256, ∀ e : Fin 4, (d.val / 4 + 64 * e.val) &&& 51 = d.val / 4 &&& 51 := by decide +kernel
theorem shr1 (l : List Nat) (h : ∀ b ∈ l, b < 256) : val l / 2 &&& val (List.replicate l.length 85) = val (l.map fun b => b / 2 &&& 85) := by
  induction l with
  | nil => rfl
  | cons b l ih =>
    have hb := h b (by simp)
    simp only [List.length_cons, List.replicate_succ, val, List.map_cons]
    rw [show (b + 256 * val l) / 2 = (b / 2 + 128 * (val l % 2)) + 256 * (val l / 2) by omega, and_split _ _ _ _ (by omega) (by omega), ih fun d hd => h d (by simp [hd])]
    rw [t1 ⟨b, hb⟩ ⟨val l % 2, by omega⟩]
theorem shr2 (l : List Nat) (h : ∀ b ∈ l, b < 256) : val l / 4 &&& val (List.replicate l.length 51) = val (l.map fun b => b / 4 &&& 51) := by
  induction l with
  | nil => rfl
  | cons b l ih =>
    have hb := h b (by simp)
    simp only [List.length_cons, List.replicate_succ, val, List.map_cons]
    rw [show (b + 256 * val l) / 4 = (b / 4 + 64 * (val l % 4)) + 256 * (val l / 4) by omega, and_split _ _ _ _ (by omega) (by omega), ih fun d hd => h d (by simp [hd])]
    rw [t2 ⟨b, hb⟩ ⟨val l % 4, by omega⟩]
theorem val_add (l : List Nat) (f g : Nat → Nat) : val (l.map f) + val (l.map g) = val (l.map fun b => f b + g b) := by
  induction l with
  | nil => rfl
  | cons b l ih =>
    simp only [List.map_cons, val]
    rw [← ih]
    omega
def s1 (b : Nat) : Nat := (b / 2 &&& 85) + (b &&& 85)
def s2 (b : Nat) : Nat := (b / 4 &&& 51) + (b &&& 51)
theorem f3 : ∀ b : Fin 256, s1 b.val < 256 ∧ s2 (s1 b.val) < 256 ∧ s2 (s1 b.val) / 16 ≤ 4 ∧ s2 (s1 b.val) % 16 ≤ 4 ∧ s2 (s1 b.val) / 16 + s2 (s1 b.val) % 16 = cnt b.val 8 := by decide +kernel
theorem shr4 (l : List Nat) (h : ∀ b ∈ l, b < 256 ∧ b / 16 ≤ 4 ∧ b % 16 ≤ 4) : (val l / 16 + val l) &&& val (List.replicate l.length 15) = val (l.map fun b => b / 16 + b % 16) := by
  induction l with
  | nil => rfl
  | cons b l ih =>
    obtain ⟨hb, hb1, hb2⟩ := h b (by simp)
    have hn : val l % 16 ≤ 4 := by
      match l with
      | [] => simp [val]
      | c :: r =>
        have := (h c (by simp)).2.2
        simp only [val]
        omega
    simp only [List.length_cons, List.replicate_succ, val, List.map_cons]
    rw [show (b + 256 * val l) / 16 + (b + 256 * val l) = (b / 16 + b + 16 * (val l % 16)) + 256 * (val l / 16 + val l) by omega, and_split _ _ _ _ (by omega) (by omega), ih fun d hd => h d (by simp [hd])]
    have : (b / 16 + b + 16 * (val l % 16)) &&& 15 = b / 16 + b % 16 := by
      rw [show (15 : Nat) = 2 ^ 4 - 1 from rfl, Nat.and_two_pow_sub_one_eq_mod]
      omega
    rw [this]
def x1 (x : Nat) : Nat := (x / 2 &&& 6148914691236517205) + (x &&& 6148914691236517205)
def x2 (x : Nat) : Nat := (x / 4 &&& 3689348814741910323) + (x &&& 3689348814741910323)
def x3 (x : Nat) : Nat := (x / 16 + x) &&& 1085102592571150095
theorem x3_val (l : List Nat) (hl : l.length = 8) (h : ∀ b ∈ l, b < 256) :
    x1 (val l) = val (l.map s1) ∧ x2 (val (l.map s1)) = val (l.map fun b => s2 (s1 b)) ∧ x3 (val (l.map fun b => s2 (s1 b))) = val (l.map fun b => cnt b 8) := by
  have m1 : val (List.replicate l.length 85) = 6148914691236517205 := by rw [hl]; decide
  have m2 : val (List.replicate l.length 51) = 3689348814741910323 := by rw [hl]; decide
  have m3 : val (List.replicate l.length 15) = 1085102592571150095 := by rw [hl]; decide
  have hs1 : ∀ b ∈ l.map s1, b < 256 := by
    intro b hb
    obtain ⟨c, hc, rfl⟩ := List.mem_map.1 hb
    exact (f3 ⟨c, h c hc⟩).1
  have hs2 : ∀ b ∈ l.map (fun b => s2 (s1 b)), b < 256 ∧ b / 16 ≤ 4 ∧ b % 16 ≤ 4 := by
    intro b hb
    obtain ⟨c, hc, rfl⟩ := List.mem_map.1 hb
    obtain ⟨_, a1, a2, a3, _⟩ := f3 ⟨c, h c hc⟩
    exact ⟨a1, a2, a3⟩
  refine ⟨?_, ?_, ?_⟩
  · unfold x1
    rw [← m1, shr1 l h, and_val l 85 (by omega) h, val_add]
    rfl
  · unfold x2
    have e1 := shr2 (l.map s1) hs1
    have e2 := and_val (l.map s1) 51 (by omega) hs1
    rw [List.length_map] at e1 e2
    rw [← m2, e1, e2, val_add, List.map_map]
    rfl
  · unfold x3
    have e1 := shr4 (l.map fun b => s2 (s1 b)) hs2
    rw [List.length_map] at e1
    rw [← m3, e1, List.map_map]
    congr 1
    refine List.map_congr_left fun b hb => ?_
    exact (f3 ⟨b, h b hb⟩).2.2.2.2
theorem cnt_le (m k : Nat) : cnt m k ≤ k := by
  induction k with
  | zero => simp [cnt]
  | succ k ih =>
    have : bit m k < 2 := Nat.mod_lt _ (by omega)
    simp only [cnt]
    omega
theorem final (a0 a1 a2 a3 a4 a5 a6 a7 : Nat) (h0 : a0 ≤ 8) (h1 : a1 ≤ 8) (h2 : a2 ≤ 8) (h3 : a3 ≤ 8) (h4 : a4 ≤ 8) (h5 : a5 ≤ 8) (h6 : a6 ≤ 8) (h7 : a7 ≤ 8) (x y z u : Nat)
    (hx : x = a0 + 256 * (a1 + 256 * (a2 + 256 * (a3 + 256 * (a4 + 256 * (a5 + 256 * (a6 + 256 * (a7 + 256 * 0)))))))) (hy : y = x + x / 256) (hz : z = y + y / 65536) (hu : u = z + z / 4294967296) :
    x < 1000000000000000000 ∧ y < 2000000000000000000 ∧ z < 3000000000000000000 ∧ u < 4000000000000000000 ∧ u % 128 = a0 + (a1 + (a2 + (a3 + (a4 + (a5 + (a6 + (a7 + 0))))))) := by
  obtain ⟨b, hb⟩ : ∃ b, b = (a0 + a1) + 256 * (a1 + a2) := ⟨_, rfl⟩
  have e1 : y = (a0 + a1) + 256 * ((a1 + a2) + 256 * ((a2 + a3) + 256 * ((a3 + a4) + 256 * ((a4 + a5) + 256 * ((a5 + a6) + 256 * ((a6 + a7) + 256 * a7)))))) := by omega
  have e2 : z = (a0 + a1 + a2 + a3) + 256 * ((a1 + a2 + a3 + a4) + 256 * ((a2 + a3 + a4 + a5) + 256 * ((a3 + a4 + a5 + a6) + 256 * ((a4 + a5 + a6 + a7) + 256 * ((a5 + a6 + a7) + 256 * ((a6 + a7) + 256 * a7)))))) := by omega
  have e3 : z / 4294967296 = (a4 + a5 + a6 + a7) + 256 * ((a5 + a6 + a7) + 256 * ((a6 + a7) + 256 * a7)) := by omega
  refine ⟨by omega, by omega, by omega, by omega, ?_⟩
  rw [hu, e3, e2]
  omega
/-- The whole of the count in parallel. -/
structure Fits (x : Nat) (y3 y4 y5 y6 : Nat) : Prop where
  b1 : x1 x < 18446744073709551616
  b2 : x2 (x1 x) < 18446744073709551616
  b3 : y3 < 1000000000000000000
  b4 : y4 < 2000000000000000000
  b5 : y5 < 3000000000000000000
  b6 : y6 < 4000000000000000000
  c : x2 (x1 x) / 16 + x2 (x1 x) < 18446744073709551616
  e : y6 % 128 = cnt x 64
theorem val_lt (l : List Nat) (h : ∀ b ∈ l, b < 256) : val l < 256 ^ l.length := by
  induction l with
  | nil => simp [val]
  | cons b l ih =>
    have := ih fun c hc => h c (by simp [hc])
    have := h b (by simp)
    simp only [val, List.length_cons, Nat.pow_succ]
    omega
theorem fits (x : Nat) (hx : x < 18446744073709551616) : ∀ y3 y4 y5 y6, y3 = x3 (x2 (x1 x)) → y4 = y3 + y3 / 256 → y5 = y4 + y4 / 65536 → y6 = y5 + y5 / 4294967296 → Fits x y3 y4 y5 y6 := by
  intro y3 y4 y5 y6 h3 h4 h5 h6
  have hl := bytes_len x 8
  have hb := bytes_lt x 8
  have hv := val_bytes x 8 (by simpa using hx)
  obtain ⟨e1, e2, e3⟩ := x3_val (bytes x 8) hl hb
  have hc := cnt_val (bytes x 8) hb
  rw [hv] at e1 hc
  rw [hl] at hc
  rw [← e1] at e2
  rw [← e2] at e3
  rw [e3] at h3
  have q1 : x1 x < 18446744073709551616 := by
    rw [e1]
    have := val_lt ((bytes x 8).map s1) (by intro b hb'; obtain ⟨c, hc', rfl⟩ := List.mem_map.1 hb'; exact (f3 ⟨c, hb c hc'⟩).1)
    rw [List.length_map, hl] at this
    simpa using this
  have q2 : x2 (x1 x) < 18446744073709551616 / 2 := by
    rw [e2]
    have : ∀ l : List Nat, l.length = 8 → (∀ b ∈ l, b < 256 ∧ b / 16 ≤ 4) → val l < 18446744073709551616 / 2 := by
      intro l hl h
      have hn : ∃ a0 a1 a2 a3 a4 a5 a6 a7, l = [a0, a1, a2, a3, a4, a5, a6, a7] := by
        match l, hl with
        | [a0, a1, a2, a3, a4, a5, a6, a7], _ => exact ⟨_, _, _, _, _, _, _, _, rfl⟩
      obtain ⟨a0, a1, a2, a3, a4, a5, a6, a7, rfl⟩ := hn
      have g0 := h a0 (by simp); have g1 := h a1 (by simp); have g2 := h a2 (by simp); have g3 := h a3 (by simp); have g4 := h a4 (by simp); have g5 := h a5 (by simp); have g6 := h a6 (by simp); have g7 := h a7 (by simp)
      simp only [val]
      omega
    refine this _ (by rw [List.length_map, hl]) fun b hb' => ?_
    obtain ⟨c, hc', rfl⟩ := List.mem_map.1 hb'
    have := f3 ⟨c, hb c hc'⟩
    exact ⟨this.2.1, this.2.2.1⟩
  have hn : ∃ a0 a1 a2 a3 a4 a5 a6 a7, bytes x 8 = [a0, a1, a2, a3, a4, a5, a6, a7] := by
    match bytes x 8, hl with
    | [a0, a1, a2, a3, a4, a5, a6, a7], _ => exact ⟨_, _, _, _, _, _, _, _, rfl⟩
  obtain ⟨a0, a1, a2, a3, a4, a5, a6, a7, hbe⟩ := hn
  rw [hbe] at h3 hc
  simp only [List.map_cons, List.map_nil, List.sum_cons, List.sum_nil, val] at h3 hc
  have := final (cnt a0 8) (cnt a1 8) (cnt a2 8) (cnt a3 8) (cnt a4 8) (cnt a5 8) (cnt a6 8) (cnt a7 8) (cnt_le _ _) (cnt_le _ _) (cnt_le _ _) (cnt_le _ _) (cnt_le _ _) (cnt_le _ _) (cnt_le _ _) (cnt_le _ _) y3 y4 y5 y6 h3 h4 h5 h6
  obtain ⟨f3', f4, f5, f6, f7⟩ := this
  exact ⟨q1, by omega, f3', f4, f5, f6, by omega, by rw [f7]; exact hc.symm⟩
end Pop
end Go.Proofs.YticmfflnenoplacGreatDoor
namespace Go.Proofs.YticmfflnenoplacGreatDoor
open Pop
namespace Bi
/-- Is n in the set? -/
def inS (x n : Nat) : Bool := bit x n == 1
theorem bit_01 (x n : Nat) : bit x n = 0 ∨ bit x n = 1 := by unfold bit; omega
theorem inS_iff {x n : Nat} : inS x n = true ↔ bit x n = 1 := by unfold inS; exact beq_iff_eq
theorem inS_no {x n : Nat} : inS x n = false ↔ bit x n = 0 := by
  have := bit_01 x n
  unfold inS
  rw [beq_eq_false_iff_ne]
  omega
theorem bit_test (x n : Nat) : inS x n = x.testBit n := by
  rw [Bool.eq_iff_iff, inS_iff, Nat.testBit_eq_decide_div_mod_eq, decide_eq_true_eq]
  rfl
theorem bit_high {x n : Nat} (hx : x < 18446744073709551616) (hn : 64 ≤ n) : inS x n = false := by
  rw [bit_test]
  have h : 2 ^ 64 ≤ 2 ^ n := Nat.pow_le_pow_right (by omega) hn
  exact Nat.testBit_lt_two_pow (Nat.lt_of_lt_of_le (by simpa using hx) h)
/-- Its numbers below k, rising. -/
def listF (x k : Nat) : List Nat := (List.range k).filter (inS x)
theorem listF_zero (x : Nat) : listF x 0 = [] := rfl
theorem listF_yes {x k : Nat} (h : inS x k = true) : listF x (k + 1) = listF x k ++ [k] := by simp [listF, List.range_succ, h]
theorem listF_no {x k : Nat} (h : inS x k = false) : listF x (k + 1) = listF x k := by simp [listF, List.range_succ, h]
theorem listF_len (x k : Nat) : (listF x k).length ≤ k := by
  unfold listF
  have := List.length_filter_le (inS x) (List.range k)
  simpa using this
theorem listF_gap {x k : Nat} : ∀ {c : Nat}, k ≤ c → (∀ i, k ≤ i → i < c → inS x i = false) → listF x c = listF x k
  | 0, h, _ => by
    obtain rfl : k = 0 := by omega
    rfl
  | c + 1, h, hn => by
    rcases (show k ≤ c ∨ k = c + 1 by omega) with hc | rfl
    · rw [listF_no (hn c hc (by omega)), listF_gap hc (fun i h1 h2 => hn i h1 (by omega))]
    · rfl
theorem listF_cnt (x k : Nat) : (listF x k).length = cnt x k := by
  induction k with
  | zero => rfl
  | succ k ih =>
    show _ = cnt x k + bit x k
    cases h : inS x k
    · rw [listF_no h, ih, inS_no.1 h]; rfl
    · rw [listF_yes h, List.length_append, ih, inS_iff.1 h]; rfl
/-- What is left of a set from k on. -/
def hiS (x k : Nat) : Nat := x / 2 ^ k * 2 ^ k
theorem hiS_zero (x : Nat) : hiS x 0 = x := by simp [hiS]
theorem hiS_le (x k : Nat) : hiS x k ≤ x := Nat.div_mul_le_self _ _
theorem hiS_none {x k : Nat} (h : hiS x k = 0) : ∀ i, k ≤ i → inS x i = false := by
  intro i hi
  have hp : 0 < 2 ^ k := Nat.two_pow_pos k
  have : x / 2 ^ k = 0 := by
    rcases Nat.mul_eq_zero.1 h with h | h
    · exact h
    · omega
  have hlt : x < 2 ^ k := by rwa [Nat.div_eq_zero_iff_lt hp] at this
  rw [bit_test]
  exact Nat.testBit_lt_two_pow (Nat.lt_of_lt_of_le hlt (Nat.pow_le_pow_right (by omega) hi))
theorem and_pred (c m : Nat) : (2 ^ c * (2 * m + 1)) &&& (2 ^ c * (2 * m + 1) - 1) = 2 ^ c * (2 * m) := by
  have hp : 0 < 2 ^ c := Nat.two_pow_pos c
  have e1 : 2 ^ c * (2 * m + 1) - 1 = 2 ^ c * (2 * m) + (2 ^ c - 1) := by rw [Nat.mul_add]; omega
  rw [e1]
  apply Nat.eq_of_testBit_eq
  intro j
  rw [Nat.testBit_and, Nat.testBit_two_pow_mul_add _ (by omega)]
  have h2 : (2 ^ c * (2 * m + 1)).testBit j = (decide (c ≤ j) && (2 * m + 1).testBit (j - c)) := Nat.testBit_two_pow_mul
  have h3 : (2 ^ c * (2 * m)).testBit j = (decide (c ≤ j) && (2 * m).testBit (j - c)) := Nat.testBit_two_pow_mul
  rw [h2, h3]
  by_cases hj : j < c
  · simp [hj, show ¬ c ≤ j by omega]
  · simp only [hj, if_false, show c ≤ j by omega, decide_true, Bool.true_and]
    generalize j - c = i
    cases i with
    | zero => simp [Nat.testBit_zero]
    | succ i =>
      rw [Nat.testBit_succ, Nat.testBit_succ, show (2 * m + 1) / 2 = m by omega, show 2 * m / 2 = m by omega, Bool.and_self]
/-- The lowest one goes. -/
theorem hiS_step {x k : Nat} (hx : x < 18446744073709551616) (h : hiS x k ≠ 0) : ∃ c, Lib.ctz 64 (hiS x k) = c ∧ k ≤ c ∧ c < 64 ∧ inS x c = true ∧ (∀ i, k ≤ i → i < c → inS x i = false) ∧ (hiS x k &&& (hiS x k - 1)) = hiS x (c + 1) := by
  have hlt : hiS x k < 2 ^ 64 := Nat.lt_of_le_of_lt (hiS_le x k) (by simpa using hx)
  obtain ⟨m, hm, hc⟩ := Lib.ctzFrom_spec 64 (hiS x k) (by omega) hlt
  have he : Lib.ctz 64 (hiS x k) = Lib.ctzFrom 64 (hiS x k) := by unfold Lib.ctz; rw [if_neg h]
  obtain ⟨c, hcc⟩ : ∃ c, c = Lib.ctzFrom 64 (hiS x k) := ⟨_, rfl⟩
  rw [← hcc] at hm hc he
  have hp : 0 < 2 ^ k := Nat.two_pow_pos k
  have tb : ∀ i, (hiS x k).testBit i = (decide (k ≤ i) && x.testBit i) := by
    intro i
    unfold hiS
    rw [Nat.mul_comm, Nat.testBit_two_pow_mul]
    by_cases hki : k ≤ i
    · simp only [hki, decide_true, Bool.true_and]
      rw [Nat.testBit_div_two_pow]
      congr 1
      omega
    · simp [hki]
  have tb2 : ∀ i, (hiS x k).testBit i = (decide (c ≤ i) && (2 * m + 1).testBit (i - c)) := by
    intro i
    rw [hm, Nat.testBit_two_pow_mul]
  have h1 : (hiS x k).testBit c = true := by rw [tb2]; simp [Nat.testBit_zero]
  have hkc : k ≤ c := by
    rw [tb] at h1
    simp only [Bool.and_eq_true, decide_eq_true_eq] at h1
    exact h1.1
  have hxc : x.testBit c = true := by
    rw [tb] at h1
    simp only [Bool.and_eq_true, decide_eq_true_eq] at h1
    exact h1.2
  have hgap : ∀ i, k ≤ i → i < c → x.testBit i = false := by
    intro i h2 h3
    have := tb2 i
    rw [tb] at this
    simpa [h2, show ¬ c ≤ i by omega] using this
  refine ⟨c, he, hkc, hc, by rw [bit_test]; exact hxc, fun i h2 h3 => by rw [bit_test]; exact hgap i h2 h3, ?_⟩
  have hand : (hiS x k &&& (hiS x k - 1)) = 2 ^ c * (2 * m) := by rw [hm]; exact and_pred c m
  rw [hand]
  apply Nat.eq_of_testBit_eq
  intro i
  have t1 : (2 ^ c * (2 * m)).testBit i = (decide (c ≤ i) && (2 * m).testBit (i - c)) := Nat.testBit_two_pow_mul
  have t2 : (hiS x (c + 1)).testBit i = (decide (c + 1 ≤ i) && x.testBit i) := by
    unfold hiS
    rw [Nat.mul_comm, Nat.testBit_two_pow_mul]
    by_cases hki : c + 1 ≤ i
    · simp only [hki, decide_true, Bool.true_and]
      rw [Nat.testBit_div_two_pow]
      congr 1
      omega
    · simp [hki]
  rw [t1, t2]
  by_cases hi : c + 1 ≤ i
  · have h3 := tb2 i
    rw [tb] at h3
    simp only [show c ≤ i by omega, show k ≤ i by omega, decide_true, Bool.true_and, hi] at h3 ⊢
    rw [h3]
    obtain ⟨j, hj⟩ : ∃ j, i - c = j + 1 := ⟨i - c - 1, by omega⟩
    rw [hj, Nat.testBit_succ, Nat.testBit_succ, show (2 * m + 1) / 2 = m by omega, show 2 * m / 2 = m by omega]
  · simp only [hi, decide_false, Bool.false_and]
    by_cases hci : c ≤ i
    · obtain rfl : i = c := by omega
      simp [Nat.testBit_zero]
    · simp [hci]
/-- A set of numbers, or what is wrong. -/
def ofA (s : Nat) : List Int → Nat × Int
  | [] => (s, 0)
  | n :: l => if n < 0 ∨ 63 < n then (0, 1) else ofA (s ||| 2 ^ n.toNat) l
def ofP (l : List Int) : Nat × Int := ofA 0 l
theorem pow_lt {n : Nat} (h : n < 64) : 2 ^ n < 18446744073709551616 := by
  have := Nat.pow_lt_pow_right (a := 2) (by omega) h
  simpa using this
theorem or_lt {a b : Nat} (ha : a < 18446744073709551616) (hb : b < 18446744073709551616) : a ||| b < 18446744073709551616 := by
  have : a ||| b < 2 ^ 64 := Nat.or_lt_two_pow (by simpa using ha) (by simpa using hb)
  simpa using this
/-! ### Spans -/
/-- Where the run that n stands in ends. -/
def runE (x : Nat) : Nat → Nat → Nat
  | 0, n => n
  | f + 1, n => if inS x (n + 1) then runE x f (n + 1) else n
def endR (x n : Nat) : Nat := runE x (64 - n) n
theorem runE_more {x : Nat} (hx : x < 18446744073709551616) : ∀ (f n : Nat), 64 ≤ n + f → ∀ g, 64 ≤ n + g → runE x f n = runE x g n
  | 0, n, h, g, hg => by
    have : ∀ g m, 64 ≤ m → runE x g m = m := by
      intro g
      induction g with
      | zero => intro m _; rfl
      | succ g ih => intro m hm; rw [runE, if_neg (by rw [bit_high hx (by omega)]; simp)]
    rw [this g n (by omega)]; rfl
  | f + 1, n, h, g, hg => by
    cases g with
    | zero =>
      show (if inS x (n + 1) then runE x f (n + 1) else n) = n
      rw [if_neg (by rw [bit_high hx (by omega)]; simp)]
    | succ g =>
      rw [runE, runE]
      split
      · exact runE_more hx f (n + 1) (by omega) g (by omega)
      · rfl
theorem endR_yes {x n : Nat} (hx : x < 18446744073709551616) (h : inS x (n + 1) = true) : endR x n = endR x (n + 1) := by
  have hn : n + 1 < 64 := by
    rcases Nat.lt_or_ge (n + 1) 64 with h1 | h1
    · exact h1
    · rw [bit_high hx h1] at h; cases h
  unfold endR
  obtain ⟨f, hf⟩ : ∃ f, 64 - n = f + 1 := ⟨63 - n, by omega⟩
  rw [hf, runE, if_pos h]
  exact runE_more hx f (n + 1) (by omega) _ (by omega)
theorem endR_no {x n : Nat} (h : inS x (n + 1) = false) : endR x n = n := by
  unfold endR
  cases 64 - n with
  | zero => rfl
  | succ f => rw [runE, if_neg (by rw [h]; simp)]
theorem endR_ge (x n : Nat) : n ≤ endR x n := by
  unfold endR
  generalize 64 - n = f
  induction f generalizing n with
  | zero => exact Nat.le_refl _
  | succ f ih =>
    rw [runE]
    split
    · have := ih (n + 1); omega
    · exact Nat.le_refl _
theorem endR_lt {x n : Nat} (hx : x < 18446744073709551616) (hn : n < 64) : endR x n < 64 := by
  have key : ∀ f n, n < 64 → runE x f n < 64 := by
    intro f
    induction f with
    | zero => intro n h; exact h
    | succ f ih =>
      intro n h
      rw [runE]
      split
      · rename_i h1
        rcases Nat.lt_or_ge (n + 1) 64 with h2 | h2
        · exact ih _ h2
        · rw [bit_high hx h2] at h1; cases h1
      · exact h
  exact key _ _ hn
/-- The spans from n on. -/
def spansF (x : Nat) : Nat → Nat → List (Nat × Nat)
  | 0, _ => []
  | f + 1, n => if 64 ≤ n then [] else if inS x n then (n, endR x n) :: spansF x f (endR x n + 1) else spansF x f (n + 1)
theorem spansF_more (x : Nat) : ∀ (f n : Nat), 64 ≤ n + f → ∀ g, 64 ≤ n + g → spansF x f n = spansF x g n
  | 0, n, h, g, hg => by
    cases g with
    | zero => rfl
    | succ g => rw [spansF, spansF, if_pos (by omega)]
  | f + 1, n, h, g, hg => by
    cases g with
    | zero => rw [spansF, spansF, if_pos (by omega)]
    | succ g =>
      rw [spansF, spansF]
      split
      · rfl
      · have hge := endR_ge x n
        split
        · rw [spansF_more x f (endR x n + 1) (by omega) g (by omega)]
        · rw [spansF_more x f (n + 1) (by omega) g (by omega)]
def spans (x n : Nat) : List (Nat × Nat) := spansF x (64 - n) n
theorem spans_end {x n : Nat} (h : 64 ≤ n) : spans x n = [] := by
  unfold spans
  rw [show 64 - n = 0 by omega]
  rfl
theorem spans_no {x n : Nat} (hn : n < 64) (h : inS x n = false) : spans x n = spans x (n + 1) := by
  unfold spans
  obtain ⟨f, hf⟩ : ∃ f, 64 - n = f + 1 := ⟨63 - n, by omega⟩
  rw [hf, spansF, if_neg (by omega), h]
  simp only [Bool.false_eq_true, if_false]
  exact spansF_more x f (n + 1) (by omega) _ (by omega)
theorem spans_yes {x n : Nat} (hn : n < 64) (h : inS x n = true) : spans x n = (n, endR x n) :: spans x (endR x n + 1) := by
  unfold spans
  have hge := endR_ge x n
  obtain ⟨f, hf⟩ : ∃ f, 64 - n = f + 1 := ⟨63 - n, by omega⟩
  rw [hf, spansF, if_neg (by omega), h]
  simp only [if_true]
  rw [spansF_more x f (endR x n + 1) (by omega) (64 - (endR x n + 1)) (by omega)]
/-- A span's text. -/
def spanT (p : Nat × Nat) : List UInt8 := Lib.itoa p.1 ++ (if p.1 < p.2 then 45 :: Lib.itoa p.2 else [])
theorem spanT_one {p : Nat × Nat} (h : p.2 ≤ p.1) : spanT p = Lib.itoa p.1 := by
  unfold spanT
  rw [if_neg (by omega), List.append_nil]
theorem spanT_two {p : Nat × Nat} (h : p.1 < p.2) : spanT p = Lib.itoa p.1 ++ 45 :: Lib.itoa p.2 := by
  unfold spanT
  rw [if_pos h]
/-- A set's text. -/
def textP (x : Nat) : List UInt8 := Lib.join ((spans x 0).map spanT) [44]
theorem join_snoc (l : List (List UInt8)) (a : List UInt8) : Lib.join (l ++ [a]) [44] = if l = [] then a else Lib.join l [44] ++ 44 :: a := by
  induction l with
  | nil => simp [Lib.join, List.intercalate]
  | cons x l ih =>
    cases l with
    | nil => simp [Lib.join, List.intercalate]
    | cons y l =>
      have e : ∀ z : List (List UInt8), Lib.join (x :: y :: z) [44] = x ++ 44 :: Lib.join (y :: z) [44] := by intro z; simp [Lib.join, List.intercalate]
      rw [show x :: y :: l ++ [a] = x :: y :: (l ++ [a]) from rfl, e, e]
      rw [show y :: l ++ [a] = y :: (l ++ [a]) from rfl] at ih
      rw [ih]
      simp
end Bi
end Go.Proofs.YticmfflnenoplacGreatDoor
namespace Go.Proofs.YticmfflnenoplacGreatDoor
namespace Am
open Go
def isD (c : UInt8) : Bool := decide (48 ≤ c.toNat) && decide (c.toNat ≤ 57)
def valD : List UInt8 → Nat → Nat
  | [], n => n
  | c :: l, n => valD l (10 * n + (c.toNat - 48))
def num (l : List UInt8) : Nat := valD l 0
theorem valD_app (l m : List UInt8) (n : Nat) : valD (l ++ m) n = valD m (valD l n) := by
  induction l generalizing n with
  | nil => rfl
  | cons c l ih => exact ih _
theorem num_snoc (l : List UInt8) (c : UInt8) : num (l ++ [c]) = 10 * num l + (c.toNat - 48) := valD_app l [c] 0
theorem num_take (l : List UInt8) (k : Nat) (h : k < l.length) : num (l.take (k + 1)) = 10 * num (l.take k) + (l[k].toNat - 48) := by
  rw [List.take_succ_eq_append_getElem h, num_snoc]
theorem isD_le {c : UInt8} (h : isD c = true) : 48 ≤ c.toNat ∧ c.toNat ≤ 57 := by
  simpa [isD] using h
theorem num_lt_snoc {l : List UInt8} {c : UInt8} {n : Nat} (h : num l < 10 ^ n) (hc : isD c = true) : num (l ++ [c]) < 10 ^ (n + 1) := by
  have := isD_le hc
  rw [num_snoc, Nat.pow_succ]
  omega
theorem num_lt (l : List UInt8) (h : l.all isD = true) (k : Nat) (hk : k ≤ l.length) : num (l.take k) < 10 ^ k := by
  induction k with
  | zero => simp [num, valD]
  | succ k ih =>
    have hd := isD_le (List.all_eq_true.1 h l[k] (List.getElem_mem (by omega)))
    have := ih (by omega)
    rw [num_take l k (by omega), Nat.pow_succ]
    omega
theorem num_lt' (l : List UInt8) (h : l.all isD = true) : num l < 10 ^ l.length := by
  have := num_lt l h l.length (Nat.le_refl _)
  rwa [List.take_length] at this
theorem num_grow (l : List UInt8) (k : Nat) (hk : k < l.length) : num (l.take k) ≤ num (l.take (k + 1)) := by
  rw [num_take l k hk]
  omega
theorem num_mono (l : List UInt8) (k : Nat) : ∀ d, k + d ≤ l.length → num (l.take k) ≤ num (l.take (k + d))
  | 0, _ => Nat.le_refl _
  | d + 1, hd => Nat.le_trans (num_mono l k d (by omega)) (num_grow l (k + d) (by omega))
/-- Is it a number, with no nought ahead? -/
def lead (s : List UInt8) : Bool := s.isEmpty || (s.head? == some 48 && decide (1 < s.length))
def okD (s : List UInt8) : Bool := !lead s && s.all isD
def digP (s : List UInt8) (most : Nat) : Nat × Bool := if okD s && decide (s.length ≤ most) then (num s, true) else (0, false)
theorem digP_yes {s : List UInt8} {most : Nat} (h : okD s = true) (hl : s.length ≤ most) : digP s most = (num s, true) := by simp [digP, h, hl]
theorem digP_no {s : List UInt8} {most : Nat} (h : okD s = false ∨ most < s.length) : digP s most = (0, false) := by
  unfold digP
  rcases h with h | h
  · simp [h]
  · rw [if_neg (by simp; intro _; omega)]
theorem digP_or (s : List UInt8) (most : Nat) : (okD s = true ∧ s.length ≤ most ∧ digP s most = (num s, true)) ∨ ((okD s = false ∨ most < s.length) ∧ digP s most = (0, false)) := by
  cases h : okD s
  · exact .inr ⟨.inl rfl, digP_no (.inl h)⟩
  · by_cases hl : s.length ≤ most
    · exact .inl ⟨rfl, hl, digP_yes h hl⟩
    · exact .inr ⟨.inr (by omega), digP_no (.inr (by omega))⟩
theorem okD_all {s : List UInt8} (h : okD s = true) : s.all isD = true := by
  simp only [okD, Bool.and_eq_true] at h
  exact h.2
theorem digP_lt (s : List UInt8) (most : Nat) : (digP s most).1 < 10 ^ most := by
  rcases digP_or s most with ⟨h, hl, he⟩ | ⟨_, he⟩
  · rw [he]
    exact Nat.lt_of_lt_of_le (num_lt' s (okD_all h)) (Nat.pow_le_pow_right (by omega) hl)
  · rw [he]
    exact Nat.pow_pos (by omega)
/-! ### Processors -/
def dot (s : List UInt8) : Nat := s.findIdx (fun c => c == 46)
def fin (n : Int) (ok : Bool) : Int × Int := if !ok then (0, 4) else if n > 1000000 then (0, 1) else (n, 0)
theorem fin_no (n : Int) : fin n false = (0, 4) := rfl
theorem fin_big {n : Int} (h : n > 1000000) : fin n true = (0, 1) := by simp [fin, h]
theorem fin_ok {n : Int} (h : ¬ n > 1000000) : fin n true = (n, 0) := by simp [fin, h]
def dec (m : Nat) : Int := 10 ^ m
def pointP (a b : List UInt8) : Int × Bool := (1000 * ((digP a 6).1 : Int) + ((digP (49 :: b) 4).1 : Int) * 10 ^ (3 - min b.length 3) - 1000, (digP a 6).2 && (digP (49 :: b) 4).2 && !b.isEmpty)
def milliP (s : List UInt8) : Int × Int :=
  if Lib.hasSuffix s [109] then fin (digP (Lib.trimSuffix s [109]) 9).1 (digP (Lib.trimSuffix s [109]) 9).2
  else if (Lib.cut s [46]).2.2 then fin (pointP (Lib.cut s [46]).1 (Lib.cut s [46]).2.1).1 (pointP (Lib.cut s [46]).1 (Lib.cut s [46]).2.1).2
  else fin (1000 * (digP (Lib.cut s [46]).1 6).1) (digP (Lib.cut s [46]).1 6).2
def milliT (n : Int) : List UInt8 := if n % 1000 = 0 then Lib.itoa (n / 1000) else Lib.itoa n ++ [109]
/-! ### Bytes -/
def units : List (List UInt8 × Nat) := [([84, 105], 1099511627776), ([71, 105], 1073741824), ([77, 105], 1048576), ([75, 105], 1024), ([], 1)]
def byteP (t : List UInt8) (size : Nat) : Int × Int := if (digP t 16).2 then (if (digP t 16).1 > 1125899906842624 / size then (0, 1) else ((digP t 16).1 * size, 0)) else (0, 4)
def bytesU (s : List UInt8) : List (List UInt8 × Nat) → Int × Int
  | [] => (0, 4)
  | u :: l => if Lib.hasSuffix s u.1 then byteP (Lib.trimSuffix s u.1) u.2 else bytesU s l
def bytesP (s : List UInt8) : Int × Int := bytesU s units
def textU (n : Nat) : List (List UInt8 × Nat) → List UInt8
  | [] => [48]
  | u :: l => if 0 < n ∧ n % u.2 = 0 then Lib.itoa ((n / u.2 : Nat) : Int) ++ u.1 else textU n l
def bytesT (n : Nat) : List UInt8 := textU n units
/-! ### What is written is read -/
theorem dec_facts (n : Nat) : (Lib.decDigits n).all isD = true ∧ num (Lib.decDigits n) = n ∧ (Lib.decDigits n ≠ []) ∧ (0 < n → (Lib.decDigits n).head? ≠ some 48) := by
  induction n using Nat.strongRecOn with
  | _ n ih =>
    have hd : ∀ k, k < 10 → (UInt8.ofNat (48 + k)).toNat = 48 + k := by
      intro k hk
      rw [UInt8.toNat_ofNat']
      omega
    by_cases h : n < 10
    · rw [Lib.decDigits, dif_pos h]
      refine ⟨?_, ?_, by simp, ?_⟩
      · simp [isD]; omega
      · simp [num, valD]; omega
      · intro hn
        simp only [List.head?_cons, ne_eq, Option.some.injEq]
        intro he
        have := congrArg UInt8.toNat he
        rw [hd n h] at this
        simp at this
        omega
    · rw [Lib.decDigits, dif_neg h]
      obtain ⟨h1, h2, h3, h4⟩ := ih (n / 10) (by omega)
      refine ⟨?_, ?_, by simp, ?_⟩
      · rw [List.all_append, h1]
        simp [isD]; omega
      · rw [num_snoc, h2, hd (n % 10) (by omega)]
        omega
      · intro _
        have := h4 (by omega)
        revert this h3
        cases Lib.decDigits (n / 10) with
        | nil => intro a; exact absurd rfl a
        | cons c l => intro _ a; simpa using a
theorem dec_len (n k : Nat) (hk : 1 ≤ k) (h : n < 10 ^ k) : (Lib.decDigits n).length ≤ k := by
  induction k generalizing n with
  | zero => omega
  | succ k ih =>
    by_cases hn : n < 10
    · rw [Lib.decDigits, dif_pos hn]; simp
    · rw [Lib.decDigits, dif_neg hn]
      rw [Nat.pow_succ] at h
      by_cases hk0 : k = 0
      · subst hk0; omega
      · have := ih (n / 10) (by omega) (by omega)
        simp; omega
theorem dec_ok (n : Nat) : okD (Lib.decDigits n) = true := by
  obtain ⟨h1, h2, h3, h4⟩ := dec_facts n
  unfold okD lead
  rw [h1]
  by_cases hn : 0 < n
  · have := h4 hn
    simp [h3, this]
  · obtain rfl : n = 0 := by omega
    rw [Lib.decDigits, dif_pos (by omega)]
    decide
theorem dig_dec (n k : Nat) (hk : 1 ≤ k) (h : n < 10 ^ k) : digP (Lib.decDigits n) k = (n, true) := by
  rw [digP_yes (dec_ok n) (dec_len n k hk h), (dec_facts n).2.1]
theorem itoa_nat (n : Nat) : Lib.itoa (n : Int) = Lib.decDigits n := by
  unfold Lib.itoa
  rw [if_neg (by omega)]
  simp
theorem not_mem_dig {l : List UInt8} (h : l.all isD = true) (c : UInt8) (hc : isD c = false) : c ∉ l := fun hm => by
  rw [List.all_eq_true.1 h c hm] at hc
  cases hc
theorem suf_app (l p : List UInt8) : Lib.hasSuffix (l ++ p) p = true ∧ Lib.trimSuffix (l ++ p) p = l := by
  have h : Lib.hasSuffix (l ++ p) p = true := by
    unfold Lib.hasSuffix
    rw [List.isSuffixOf_iff_suffix]
    exact List.suffix_append _ _
  refine ⟨h, ?_⟩
  unfold Lib.trimSuffix
  rw [if_pos h]
  simp
theorem suf_no {l p : List UInt8} {c : UInt8} (hp : p.getLast? = some c) (h : l.getLast? ≠ some c) : Lib.hasSuffix l p = false := by
  cases hh : Lib.hasSuffix l p
  · rfl
  · unfold Lib.hasSuffix at hh
    rw [List.isSuffixOf_iff_suffix] at hh
    obtain ⟨t, rfl⟩ := hh
    exact absurd (by rw [List.getLast?_append, hp]; rfl) h
theorem suf_dig {l p : List UInt8} {c : UInt8} (hl : l.all isD = true) (hp : p.getLast? = some c) (hc : isD c = false) : Lib.hasSuffix l p = false :=
  suf_no hp fun he => not_mem_dig hl c hc (List.mem_of_getLast? he)
theorem cut_none {l : List UInt8} (h : (46 : UInt8) ∉ l) : Lib.cut l [46] = (l, [], false) := by
  have : Lib.index l [46] = -1 := by
    rw [Lib.index_one]
    induction l with
    | nil => rfl
    | cons b l ih =>
      have hb : (b == 46) = false := by
        rw [beq_eq_false_iff_ne]
        intro he
        exact h (by simp [he])
      have := ih (fun hm => h (by simp [hm]))
      simp [Lib.indexByte, hb, this]
  unfold Lib.cut
  rw [if_neg (by omega)]
theorem milli_back (n : Int) (h0 : 0 ≤ n) (h1 : n ≤ 1000000) : milliP (milliT n) = (n, 0) := by
  obtain ⟨m, rfl⟩ : ∃ m : Nat, n = m := ⟨n.toNat, by omega⟩
  unfold milliT
  by_cases hm : m % 1000 = 0
  · rw [if_pos (by omega), show ((m : Int) / 1000) = ((m / 1000 : Nat) : Int) by omega, itoa_nat]
    have hall := (dec_facts (m / 1000)).1
    unfold milliP
    rw [suf_dig hall (p := [109]) rfl (by decide), cut_none (not_mem_dig hall 46 (by decide))]
    dsimp only
    rw [dig_dec (m / 1000) 6 (by omega) (by omega)]
    simp only [Bool.false_eq_true, if_false]
    rw [fin_ok (by omega)]
    congr 1
    omega
  · rw [if_neg (by omega), itoa_nat]
    unfold milliP
    have ⟨h2, h3⟩ := suf_app (Lib.decDigits m) [109]
    rw [if_pos h2, h3, dig_dec m 9 (by omega) (by omega), fin_ok (by dsimp only; omega)]
theorem byteP_dec (k size : Nat) (h : k ≤ 1125899906842624 / size) (hk : k ≤ 1125899906842624) : byteP (Lib.decDigits k) size = (((k * size : Nat) : Int), 0) := by
  unfold byteP
  rw [dig_dec k 16 (by omega) (by omega)]
  dsimp only
  rw [if_pos rfl, if_neg (by omega)]
  simp
theorem back_unit (m : Nat) (h1 : m ≤ 1125899906842624) (size : Nat) (hm : m % size = 0) : byteP (Lib.decDigits (m / size)) size = ((m : Int), 0) := by
  have h2 := Nat.div_le_div_right (c := size) h1
  have h3 : m / size ≤ m := Nat.div_le_self _ _
  rw [byteP_dec (m / size) size h2 (by omega), Nat.div_mul_cancel (Nat.dvd_of_mod_eq_zero hm)]
theorem suf_two (l : List UInt8) (a b : UInt8) (h : a ≠ b) : Lib.hasSuffix (l ++ [a, 105]) [b, 105] = false := by
  cases hh : Lib.hasSuffix (l ++ [a, 105]) [b, 105]
  · rfl
  · unfold Lib.hasSuffix at hh
    rw [List.isSuffixOf_iff_suffix] at hh
    obtain ⟨t, ht⟩ := hh
    have := congrArg List.reverse ht
    simp at this
    exact absurd this.1.symm h
theorem bytes_back (m : Nat) (h1 : m ≤ 1125899906842624) : bytesP (bytesT m) = ((m : Int), 0) := by
  unfold bytesT units
  simp only [textU]
  by_cases h0 : 0 < m
  · simp only [h0, true_and]
    unfold bytesP units
    by_cases ht : m % 1099511627776 = 0
    · rw [if_pos ht, itoa_nat]
      have ⟨a, b⟩ := suf_app (Lib.decDigits (m / 1099511627776)) [84, 105]
      simp only [bytesU, a, b, if_true]
      exact back_unit m h1 _ ht
    · rw [if_neg ht]
      by_cases hg : m % 1073741824 = 0
      · rw [if_pos hg, itoa_nat]
        have ⟨a, b⟩ := suf_app (Lib.decDigits (m / 1073741824)) [71, 105]
        simp only [bytesU, a, b, if_true, suf_two _ 71 84 (by decide), Bool.false_eq_true, if_false]
        exact back_unit m h1 _ hg
      · rw [if_neg hg]
        by_cases hme : m % 1048576 = 0
        · rw [if_pos hme, itoa_nat]
          have ⟨a, b⟩ := suf_app (Lib.decDigits (m / 1048576)) [77, 105]
          simp only [bytesU, a, b, if_true, suf_two _ 77 84 (by decide), suf_two _ 77 71 (by decide), Bool.false_eq_true, if_false]
          exact back_unit m h1 _ hme
        · rw [if_neg hme]
          by_cases hk : m % 1024 = 0
          · rw [if_pos hk, itoa_nat]
            have ⟨a, b⟩ := suf_app (Lib.decDigits (m / 1024)) [75, 105]
            simp only [bytesU, a, b, if_true, suf_two _ 75 84 (by decide), suf_two _ 75 71 (by decide), suf_two _ 75 77 (by decide), Bool.false_eq_true, if_false]
            exact back_unit m h1 _ hk
          · rw [if_neg hk, if_pos (Nat.mod_one m), itoa_nat, Nat.div_one, List.append_nil]
            have hall := (dec_facts m).1
            have hn : Lib.hasSuffix (Lib.decDigits m) [] = true ∧ Lib.trimSuffix (Lib.decDigits m) [] = Lib.decDigits m := by
              have := suf_app (Lib.decDigits m) []
              simpa using this
            simp only [bytesU, suf_dig hall (p := [84, 105]) (c := 105) rfl (by decide), suf_dig hall (p := [71, 105]) (c := 105) rfl (by decide), suf_dig hall (p := [77, 105]) (c := 105) rfl (by decide), suf_dig hall (p := [75, 105]) (c := 105) rfl (by decide), hn, Bool.false_eq_true, if_false, if_true]
            have := back_unit m h1 1 (Nat.mod_one m)
            rwa [Nat.div_one] at this
  · obtain rfl : m = 0 := by omega
    simp only [Nat.lt_irrefl, false_and, if_false]
    decide +kernel
end Am
end Go.Proofs.YticmfflnenoplacGreatDoor
namespace Go.Proofs.YticmfflnenoplacGreatDoor
namespace Am
open Go
/-- A number that stops to grow above a bound. -/
def clip (s : List UInt8) (most : Nat) : Nat → Nat
  | 0 => 0
  | k + 1 => if clip s most k ≤ most then 10 * clip s most k + ((s[k]?.getD 48).toNat - 48) else clip s most k
theorem clip_next (s : List UInt8) (most k : Nat) (h : k < s.length) : clip s most (k + 1) = if clip s most k ≤ most then 10 * clip s most k + (s[k].toNat - 48) else clip s most k := by
  simp [clip, List.getElem?_eq_getElem h]
theorem clip_num (s : List UInt8) (most : Nat) (k : Nat) (hk : k ≤ s.length) : (clip s most k ≤ most ∧ clip s most k = num (s.take k)) ∨ (most < clip s most k ∧ most < num (s.take k)) := by
  induction k with
  | zero => exact .inl ⟨Nat.zero_le _, by simp [clip, num, valD]⟩
  | succ k ih =>
    rw [clip_next s most k (by omega), num_take s k (by omega)]
    rcases ih (by omega) with ⟨h1, h2⟩ | ⟨h1, h2⟩
    · rw [if_pos h1, h2]
      by_cases hc : 10 * num (s.take k) + (s[k].toNat - 48) ≤ most
      · exact .inl ⟨hc, rfl⟩
      · exact .inr ⟨by omega, by omega⟩
    · rw [if_neg (by omega)]
      exact .inr ⟨h1, by omega⟩
theorem clip_le (s : List UInt8) (most : Nat) (hall : s.all isD = true) (k : Nat) (hk : k ≤ s.length) : clip s most k ≤ 10 * most + 9 := by
  induction k with
  | zero => simp [clip]
  | succ k ih =>
    have hd := isD_le (List.all_eq_true.1 hall s[k] (List.getElem_mem (by omega)))
    rw [clip_next s most k (by omega)]
    split
    · omega
    · exact ih (by omega)
theorem clip_full (s : List UInt8) (most : Nat) : min (clip s most s.length) (most + 1) = min (num s) (most + 1) := by
  have h := clip_num s most s.length (Nat.le_refl _)
  rw [List.take_length] at h
  rcases h with ⟨h1, h2⟩ | ⟨h1, h2⟩
  · rw [h2]
  · omega
/-- What the document's digits tell. -/
def digR (s : List UInt8) (most : Nat) : Nat × Bool := if okD s then (min (num s) (most + 1), true) else (0, false)
/-! ### Processors -/
theorem cut_dot (s : List UInt8) : Lib.cut s [46] = (s.take (dot s), s.drop (dot s + 1), decide (dot s < s.length)) := by
  have key : ∀ l : List UInt8, (dot l < l.length ∧ Lib.index l [46] = (dot l : Int)) ∨ (dot l = l.length ∧ Lib.index l [46] = -1) := by
    intro l
    induction l with
    | nil => exact .inr ⟨rfl, rfl⟩
    | cons b l ih =>
      rw [Lib.index_one] at ih ⊢
      unfold dot at ih ⊢
      rw [List.findIdx_cons, Lib.indexByte]
      cases hb : (b == 46)
      · rcases ih with ⟨h1, h2⟩ | ⟨h1, h2⟩
        · refine .inl ⟨by simp only [cond_false, List.length_cons]; omega, ?_⟩
          simp [h2]
        · refine .inr ⟨by simp only [cond_false, List.length_cons]; omega, ?_⟩
          simp [h2]
      · exact .inl ⟨by simp, by simp⟩
  unfold Lib.cut
  rcases key s with ⟨h1, h2⟩ | ⟨h1, h2⟩
  · rw [h2, if_pos (by omega), decide_eq_true h1]
    simp
  · rw [h2, if_neg (by omega), h1, List.take_length, List.drop_of_length_le (by omega)]
    simp
theorem num_one (b : List UInt8) : num (49 :: b) = 10 ^ b.length + num b := by
  have key : ∀ (b : List UInt8) (n : Nat), valD b n = n * 10 ^ b.length + valD b 0 := by
    intro b
    induction b with
    | nil => intro n; simp [valD]
    | cons c b ih =>
      intro n
      show valD b (10 * n + (c.toNat - 48)) = n * 10 ^ (b.length + 1) + valD b (10 * 0 + (c.toNat - 48))
      simp only [Nat.mul_zero, Nat.zero_add]
      rw [ih (10 * n + (c.toNat - 48)), ih (c.toNat - 48), Nat.pow_succ, Nat.add_mul]
      have : n * (10 ^ b.length * 10) = 10 * n * 10 ^ b.length := by rw [Nat.mul_comm 10 n, Nat.mul_assoc, Nat.mul_comm 10]
      omega
  show valD b (10 * 0 + (49 - 48)) = _
  rw [key b]
  simp [num]
theorem okD_one (b : List UInt8) : okD (49 :: b) = b.all isD := by
  have : isD 49 = true := by decide
  simp [okD, lead, this]
/-- The prt behind the point, of three places. -/
def prt (b : List UInt8) : Nat → Nat
  | 0 => 0
  | i + 1 => 10 * prt b i + (match b[i]? with | some c => c.toNat - 48 | none => 0)
theorem prt_in (b : List UInt8) (i : Nat) (h : i < b.length) : prt b (i + 1) = 10 * prt b i + (b[i].toNat - 48) := by
  simp [prt, List.getElem?_eq_getElem h]
theorem prt_out (b : List UInt8) (i : Nat) (h : b.length ≤ i) : prt b (i + 1) = 10 * prt b i := by
  simp [prt, List.getElem?_eq_none h]
theorem prt_take (b : List UInt8) (i : Nat) (h : i ≤ b.length) : prt b i = num (b.take i) := by
  induction i with
  | zero => simp [prt, num, valD]
  | succ i ih => rw [prt_in b i (by omega), num_take b i (by omega), ih (by omega)]
theorem prt_more (b : List UInt8) (d : Nat) : prt b (b.length + d) = num b * 10 ^ d := by
  induction d with
  | zero =>
    rw [Nat.add_zero, prt_take b b.length (Nat.le_refl _), List.take_length]
    simp
  | succ d ih => rw [← Nat.add_assoc, prt_out b _ (by omega), ih, Nat.pow_succ, ← Nat.mul_assoc (num b), Nat.mul_comm 10]
theorem prt_three (b : List UInt8) (h : b.length ≤ 3) : prt b 3 = num b * 10 ^ (3 - b.length) := by
  have := prt_more b (3 - b.length)
  rwa [show b.length + (3 - b.length) = 3 by omega] at this
/-- The document's way, by its cases. -/
theorem milli_m {s : List UInt8} (t : List UInt8) (h : s = t ++ [109]) : milliP s = if okD t && decide (t.length ≤ 9) then fin (num t) true else (0, 4) := by
  subst h
  have ⟨h1, h2⟩ := suf_app t [109]
  unfold milliP
  rw [if_pos h1, h2]
  rcases digP_or t 9 with ⟨a, b, c⟩ | ⟨a, c⟩
  · rw [c, a, decide_eq_true b]; rfl
  · rw [c]
    have : (okD t && decide (t.length ≤ 9)) = false := by
      rcases a with a | a
      · rw [a]; rfl
      · rw [decide_eq_false (by omega)]; simp
    rw [this]; rfl
theorem milli_no {s : List UInt8} (h : s.getLast? ≠ some 109) : milliP s = if dot s < s.length then fin (pointP (s.take (dot s)) (s.drop (dot s + 1))).1 (pointP (s.take (dot s)) (s.drop (dot s + 1))).2 else fin (1000 * (digP (s.take (dot s)) 6).1) (digP (s.take (dot s)) 6).2 := by
  unfold milliP
  rw [suf_no (p := [109]) (c := 109) rfl h, cut_dot]
  simp only [Bool.false_eq_true, if_false, decide_eq_true_eq]
theorem milli_plain {s : List UInt8} (h : s.getLast? ≠ some 109) (hd : ¬ dot s < s.length) : milliP s = if okD (s.take (dot s)) && decide ((s.take (dot s)).length ≤ 6) then fin (1000 * (num (s.take (dot s)) : Int)) true else (0, 4) := by
  rw [milli_no h, if_neg hd]
  generalize s.take (dot s) = t
  rcases digP_or t 6 with ⟨a, b, c⟩ | ⟨a, c⟩
  · rw [c, a, decide_eq_true b]; rfl
  · rw [c]
    have : (okD t && decide (t.length ≤ 6)) = false := by
      rcases a with a | a
      · rw [a]; rfl
      · rw [decide_eq_false (by omega)]; simp
    rw [this]; rfl
theorem milli_point {s : List UInt8} (h : s.getLast? ≠ some 109) (hd : dot s < s.length) :
    milliP s = if okD (s.take (dot s)) && decide ((s.take (dot s)).length ≤ 6) && (decide (1 ≤ (s.drop (dot s + 1)).length) && decide ((s.drop (dot s + 1)).length ≤ 3)) && (s.drop (dot s + 1)).all isD then fin (1000 * (num (s.take (dot s)) : Int) + (prt (s.drop (dot s + 1)) 3 : Nat)) true else (0, 4) := by
  rw [milli_no h, if_pos hd]
  generalize s.take (dot s) = t
  generalize s.drop (dot s + 1) = b
  unfold pointP
  rcases digP_or t 6 with ⟨a, b6, c⟩ | ⟨a, c⟩
  · rw [c, a, decide_eq_true b6]
    dsimp only
    rcases digP_or (49 :: b) 4 with ⟨a2, b2, c2⟩ | ⟨a2, c2⟩
    · rw [c2]
      dsimp only
      rw [okD_one] at a2
      simp only [List.length_cons] at b2
      rw [a2, decide_eq_true (show b.length ≤ 3 by omega)]
      cases b with
      | nil => simp [fin_no]
      | cons x b =>
        simp only [List.length_cons] at b2
        have h3 := prt_three (x :: b) (by simp; omega)
        rw [h3, num_one]
        simp only [List.length_cons, List.isEmpty_cons, Bool.not_false, Bool.and_self, decide_eq_true (show 1 ≤ b.length + 1 by omega), if_true]
        congr 1
        rw [show min (b.length + 1) 3 = b.length + 1 by omega]
        have hp : (10 : Int) ^ (b.length + 1) * 10 ^ (3 - (b.length + 1)) = 1000 := by
          have : b.length = 0 ∨ b.length = 1 ∨ b.length = 2 := by omega
          rcases this with e | e | e <;> rw [e] <;> rfl
        rw [Int.natCast_add, Int.natCast_mul, Int.add_mul]
        simp only [Int.natCast_pow, Int.cast_ofNat_Int]
        rw [hp]
        omega
    · rw [c2]
      dsimp only
      rw [okD_one] at a2
      have : (decide (1 ≤ b.length) && decide (b.length ≤ 3) && b.all isD) = false := by
        rcases a2 with a2 | a2
        · rw [a2]; simp
        · rw [decide_eq_false (show ¬ b.length ≤ 3 by simp at a2; omega)]; simp
      simp only [Bool.true_and, this, Bool.and_false, Bool.false_and, Bool.false_eq_true, if_false]
      rfl
  · rw [c]
    have : (okD t && decide (t.length ≤ 6)) = false := by
      rcases a with a | a
      · rw [a]; rfl
      · rw [decide_eq_false (by omega)]; simp
    rw [this]
    simp [fin_no]
/-! ### Bytes -/
def sizeR (s : List UInt8) : Nat × Nat :=
  if Lib.hasSuffix s [75, 105] then (1024, s.length - 2) else if Lib.hasSuffix s [77, 105] then (1048576, s.length - 2) else if Lib.hasSuffix s [71, 105] then (1073741824, s.length - 2)
  else if Lib.hasSuffix s [84, 105] then (1099511627776, s.length - 2) else (1, s.length)
theorem suf_iff (s : List UInt8) (c : UInt8) : Lib.hasSuffix s [c, 105] = (decide (1 < s.length) && (s[s.length - 1]? == some 105) && (s[s.length - 2]? == some c)) := by
  rw [Bool.eq_iff_iff]
  simp only [Bool.and_eq_true, decide_eq_true_eq, beq_iff_eq]
  unfold Lib.hasSuffix
  rw [List.isSuffixOf_iff_suffix]
  constructor
  · rintro ⟨t, rfl⟩
    refine ⟨⟨by simp, ?_⟩, ?_⟩
    · rw [List.getElem?_append_right (by simp)]
      simp
    · rw [List.getElem?_append_right (by simp)]
      simp
  · rintro ⟨⟨h1, h2⟩, h3⟩
    refine ⟨s.take (s.length - 2), ?_⟩
    obtain ⟨i1, e1⟩ := List.getElem?_eq_some_iff.1 h2
    obtain ⟨i2, e2⟩ := List.getElem?_eq_some_iff.1 h3
    conv => rhs; rw [← List.take_append_drop (s.length - 2) s]
    congr 1
    rw [List.drop_eq_getElem_cons i2, e2]
    congr 1
    rw [show s.length - 2 + 1 = s.length - 1 by omega, List.drop_eq_getElem_cons i1, e1, show s.length - 1 + 1 = s.length by omega, List.drop_length]
theorem suf_ne {s : List UInt8} {a b : UInt8} (h : Lib.hasSuffix s [a, 105] = true) (hab : a ≠ b) : Lib.hasSuffix s [b, 105] = false := by
  rw [suf_iff] at h ⊢
  simp only [Bool.and_eq_true, decide_eq_true_eq, beq_iff_eq] at h
  rw [h.2]
  simp [hab]
theorem bytes_way (s : List UInt8) : bytesP s = byteP (s.take (sizeR s).2) (sizeR s).1 := by
  unfold bytesP units sizeR
  simp only [bytesU]
  have ht : ∀ p : List UInt8, p.length = 2 → Lib.hasSuffix s p = true → Lib.trimSuffix s p = s.take (s.length - 2) := by
    intro p hp h
    unfold Lib.trimSuffix
    rw [if_pos h, hp]
  cases hK : Lib.hasSuffix s [75, 105]
  · cases hM : Lib.hasSuffix s [77, 105]
    · cases hG : Lib.hasSuffix s [71, 105]
      · cases hT : Lib.hasSuffix s [84, 105]
        · have : Lib.hasSuffix s [] = true ∧ Lib.trimSuffix s [] = s := by
            have := suf_app s []
            simpa using this
          simp [this]
        · simp [ht _ rfl hT]
      · simp [suf_ne hG (show (71 : UInt8) ≠ 84 by decide), ht _ rfl hG]
    · simp [suf_ne hM (show (77 : UInt8) ≠ 84 by decide), suf_ne hM (show (77 : UInt8) ≠ 71 by decide), ht _ rfl hM]
  · simp [suf_ne hK (show (75 : UInt8) ≠ 84 by decide), suf_ne hK (show (75 : UInt8) ≠ 71 by decide), suf_ne hK (show (75 : UInt8) ≠ 77 by decide), ht _ rfl hK]
end Am
end Go.Proofs.YticmfflnenoplacGreatDoor
namespace Go.Proofs.YticmfflnenoplacGreatDoor
open Am
namespace Bi
/-- Is it a number as it is written, with room in an int? -/
def numB (a : List UInt8) : Bool := okD a && decide (num a ≤ 9223372036854775807)
theorem okD_cons {a : List UInt8} (h : okD a = true) : ∃ c r, a = c :: r ∧ isD c = true ∧ (r ≠ [] → c ≠ 48) := by
  cases a with
  | nil => simp [okD, lead] at h
  | cons c r =>
    have ha := okD_all h
    simp only [List.all_cons, Bool.and_eq_true] at ha
    refine ⟨c, r, rfl, ha.1, fun hr hc => ?_⟩
    subst hc
    cases r with
    | nil => exact hr rfl
    | cons d r => simp [okD, lead] at h
theorem parse_num : ∀ (l : List UInt8) (acc : Nat), l.all isD = true → valD l acc ≤ 9223372036854775807 → Lib.parseUint10 acc l = .ok (valD l acc)
  | [], acc, _, _ => rfl
  | c :: r, acc, h, hb => by
    simp only [List.all_cons, Bool.and_eq_true] at h
    have hc := isD_le h.1
    have hmono : ∀ (l : List UInt8) (n : Nat), n ≤ valD l n := by
      intro l
      induction l with
      | nil => intro n; exact Nat.le_refl _
      | cons d l ih => intro n; have := ih (10 * n + (d.toNat - 48)); simp only [valD]; omega
    have h1 : valD (c :: r) acc = valD r (10 * acc + (c.toNat - 48)) := rfl
    have h2 := hmono r (10 * acc + (c.toNat - 48))
    rw [h1] at hb ⊢
    rw [Lib.parseUint10, if_pos hc, if_neg (by omega), if_neg (by omega), show acc * 10 + (c.toNat - 48) = 10 * acc + (c.toNat - 48) by omega]
    exact parse_num r _ h.2 hb
theorem atoi_num {a : List UInt8} (h : numB a = true) : Lib.atoiAll a = .ok (num a : Int) := by
  simp only [numB, Bool.and_eq_true, decide_eq_true_eq] at h
  obtain ⟨c, r, rfl, hc, _⟩ := okD_cons h.1
  have hcd := isD_le hc
  rw [Lib.atoiAll_plain c r (by omega) (by omega), Lib.parseMag, if_neg (by simp), parse_num _ 0 (okD_all h.1) h.2]
  simp only [Lib.signless]
  rw [if_neg (by have : num (c :: r) = valD (c :: r) 0 := rfl; omega)]
  rfl
theorem dec_num : ∀ (n : Nat) (a : List UInt8), a.length = n → okD a = true → Lib.decDigits (num a) = a
  | 0, a, hl, h => by
    obtain rfl := List.length_eq_zero_iff.1 hl
    simp [okD, lead] at h
  | n + 1, a, hl, h => by
    have hall := okD_all h
    have hne : a ≠ [] := by intro he; rw [he] at hl; simp at hl
    obtain ⟨l, d, rfl⟩ : ∃ l d, a = l ++ [d] := ⟨a.dropLast, a.getLast hne, (List.dropLast_concat_getLast hne).symm⟩
    simp only [List.all_append, List.all_cons, List.all_nil, Bool.and_true, Bool.and_eq_true] at hall
    have hd := isD_le hall.2
    have e48 : UInt8.ofNat (48 + (d.toNat - 48)) = d := by
      apply UInt8.toNat_inj.1
      rw [UInt8.toNat_ofNat']
      omega
    rw [num_snoc]
    cases l with
    | nil =>
      have : 10 * num [] + (d.toNat - 48) = d.toNat - 48 := by simp [num, valD]
      rw [this, Lib.decDigits, dif_pos (by omega), e48]
      rfl
    | cons c l =>
      have hc48 : c ≠ 48 := by
        obtain ⟨c', r, he, _, hc⟩ := okD_cons h
        simp only [List.cons_append, List.cons.injEq] at he
        obtain ⟨rfl, rfl⟩ := he
        exact hc (by simp)
      have hok : okD (c :: l) = true := by
        have : ¬ (c = 48) := hc48
        simp only [okD, lead, List.isEmpty_cons, List.head?_cons, Bool.false_or, Bool.and_eq_true]
        exact ⟨by simp [this], hall.1⟩
      have hpos : 0 < num (c :: l) := by
        have hcd := isD_le (List.all_eq_true.1 hall.1 c (by simp))
        have hc0 : c.toNat ≠ 48 := fun e => hc48 (UInt8.toNat_inj.1 e)
        have hmono : ∀ (l : List UInt8) (n : Nat), n ≤ valD l n := by
          intro l
          induction l with
          | nil => intro n; exact Nat.le_refl _
          | cons d l ih => intro n; have := ih (10 * n + (d.toNat - 48)); simp only [valD]; omega
        have := hmono l (10 * 0 + (c.toNat - 48))
        show 0 < valD l (10 * 0 + (c.toNat - 48))
        omega
      have ih := dec_num n (c :: l) (by simpa using hl) hok
      rw [Lib.decDigits, dif_neg (by omega)]
      rw [show (10 * num (c :: l) + (d.toNat - 48)) / 10 = num (c :: l) by omega, show (10 * num (c :: l) + (d.toNat - 48)) % 10 = d.toNat - 48 by omega, ih, e48]
theorem itoa_num {a : List UInt8} (h : okD a = true) : Lib.itoa (num a : Int) = a := by rw [itoa_nat]; exact dec_num _ a rfl h
/-- What is read as a number and written again. -/
theorem numB_of {a : List UInt8} {v : Int} (h : Lib.atoiAll a = .ok v) : numB a = (decide (Lib.itoa v = a) && decide (0 ≤ v)) := by
  have hb := Lib.atoiAll_bounds h
  rw [Bool.eq_iff_iff, Bool.and_eq_true, decide_eq_true_eq, decide_eq_true_eq]
  constructor
  · intro hn
    have := atoi_num hn
    rw [h] at this
    injection this with hv
    simp only [numB, Bool.and_eq_true] at hn
    exact ⟨by rw [hv]; exact itoa_num hn.1, by omega⟩
  · rintro ⟨h1, h2⟩
    obtain ⟨n, rfl⟩ : ∃ n : Nat, v = n := ⟨v.toNat, by omega⟩
    rw [itoa_nat] at h1
    rw [← h1]
    simp only [numB, Bool.and_eq_true, decide_eq_true_eq]
    rw [(dec_facts n).2.1]
    exact ⟨dec_ok n, by omega⟩
theorem numB_val {a : List UInt8} {v : Int} (h : Lib.atoiAll a = .ok v) (hn : numB a = true) : v = num a := by
  have := atoi_num hn
  rw [h] at this
  injection this
theorem numB_syn {a : List UInt8} (h : Lib.atoiAll a = .«syntax») : numB a = false := by
  cases hn : numB a
  · rfl
  · rw [atoi_num hn] at h; cases h
theorem numB_rng {a : List UInt8} (h : Lib.atoiAll a = .range) : numB a = false := by
  cases hn : numB a
  · rfl
  · rw [atoi_num hn] at h; cases h
/-- All numbers from one to another one, too. -/
def orR (s : Nat) (a : Nat) : Nat → Nat
  | 0 => s
  | k + 1 => orR s a k ||| 2 ^ (a + k)
theorem orR_lt {s a : Nat} (hs : s < 18446744073709551616) : ∀ {k : Nat}, a + k ≤ 64 → orR s a k < 18446744073709551616
  | 0, _ => hs
  | k + 1, h => or_lt (orR_lt hs (by omega)) (pow_lt (by omega))
/-- A word of a set's text: the two numbers' texts. -/
def wordA (w : List UInt8) : List UInt8 := (Lib.cut w [45]).1
def wordB (w : List UInt8) : List UInt8 := if (Lib.cut w [45]).2.2 then (Lib.cut w [45]).2.1 else (Lib.cut w [45]).1
def goW (out : Nat) : List (List UInt8) → Nat × Int
  | [] => (out, 0)
  | w :: l => if !numB (wordA w) || !numB (wordB w) || decide (num (wordB w) < num (wordA w)) then (0, 4) else if 64 ≤ num (wordB w) then (0, 1) else goW (orR out (num (wordA w)) (num (wordB w) + 1 - num (wordA w))) l
def wordsP (s : List UInt8) : List (List UInt8) := Lib.split s [44]
def parseP (s : List UInt8) : Nat × Int := if 300 < s.length then (0, 2) else if s = [] then (0, 0) else goW 0 (wordsP s)
section
variable {L : List (List UInt8)} {k out : Nat}
theorem goW_bad (hk : k < L.length) {r : Nat × Int} (h : r = goW out (L.drop k)) (hb : numB (wordA L[k]) = false ∨ numB (wordB L[k]) = false ∨ num (wordB L[k]) < num (wordA L[k])) : r = (0, 4) := by
  rw [h, List.drop_eq_getElem_cons hk, goW, if_pos]
  rcases hb with hb | hb | hb <;> simp [hb]
theorem goW_far (hk : k < L.length) {r : Nat × Int} (h : r = goW out (L.drop k)) (h1 : numB (wordA L[k]) = true) (h2 : numB (wordB L[k]) = true) (h3 : num (wordA L[k]) ≤ num (wordB L[k])) (h4 : 64 ≤ num (wordB L[k])) : r = (0, 1) := by
  rw [h, List.drop_eq_getElem_cons hk, goW, if_neg (by simp [h1, h2]; omega), if_pos h4]
theorem goW_next (hk : k < L.length) {r : Nat × Int} (h : r = goW out (L.drop k)) (h1 : numB (wordA L[k]) = true) (h2 : numB (wordB L[k]) = true) (h3 : num (wordA L[k]) ≤ num (wordB L[k])) (h4 : num (wordB L[k]) < 64) : r = goW (orR out (num (wordA L[k])) (num (wordB L[k]) + 1 - num (wordA L[k]))) (L.drop (k + 1)) := by
  rw [h, List.drop_eq_getElem_cons hk, goW, if_neg (by simp [h1, h2]; omega), if_neg (by omega)]
end
end Bi
end Go.Proofs.YticmfflnenoplacGreatDoor
namespace Go.Proofs.YticmfflnenoplacGreatDoor
namespace Da
structure Given where
  cpus : Nat
  devs : List Int
structure Held where
  pod : Pod
  given : List Given
end Da
namespace Sv
open Da Qo Bi
/-! ### What is wrong -/
def devFault (l : List Int) (k : Nat) : Int :=
  match l[k]? with
  | none => 0
  | some n => if n < 0 ∨ 15 < n then 3 else if 0 < k ∧ n ≤ (l[k - 1]?).getD 0 then 3 else 0
def givF (g : Given) : Int := if 16 < g.devs.length then 2 else firstF (devFault g.devs) g.devs.length
def givFault (l : List Given) (k : Nat) : Int :=
  match l[k]? with
  | none => 0
  | some g => givF g
def notUp (l : List Held) (k : Nat) (h : Held) : Bool :=
  match k with
  | 0 => false
  | j + 1 => match l[j]? with
    | none => false
    | some g => !lessS g.pod.name h.pod.name
def oneFault (l : List Held) (k : Nat) (h : Held) : Int :=
  if podFault h.pod ≠ 0 then podFault h.pod else if notUp l k h = true ∨ h.given.length ≠ h.pod.conts.length then 3 else firstF (givFault h.given) h.given.length
def heldAt (l : List Held) (k : Nat) : Int :=
  match l[k]? with
  | none => 0
  | some h => oneFault l k h
def heldFault (l : List Held) : Int := if 12 < l.length then 2 else firstF (heldAt l) l.length
theorem devFault_at (l : List Int) (k : Nat) (h : k < l.length) : devFault l k = if l[k] < 0 ∨ 15 < l[k] then 3 else if 0 < k ∧ l[k] ≤ (l[k - 1]?).getD 0 then 3 else 0 := by
  simp [devFault, List.getElem?_eq_getElem h]
theorem givFault_at (l : List Given) (k : Nat) (h : k < l.length) : givFault l k = givF l[k] := by simp [givFault, List.getElem?_eq_getElem h]
theorem heldAt_at (l : List Held) (k : Nat) (h : k < l.length) : heldAt l k = oneFault l k l[k] := by simp [heldAt, List.getElem?_eq_getElem h]
/-! ### Its text -/
def toB (l : List UInt8) : ByteArray := ⟨l.toArray⟩
@[simp] theorem toB_list (l : List UInt8) : (toB l).data.toList = l := rfl
theorem toB_of (s : ByteArray) : toB s.data.toList = s := by cases s; simp [toB]
theorem toB_eq {s : ByteArray} {l : List UInt8} (h : s.data.toList = l) : s = toB l := by rw [← h, toB_of]
def wPod : List UInt8 := [112, 111, 100]
def wCont : List UInt8 := [99, 111, 110, 116]
def wSum : List UInt8 := [115, 117, 109, 32]
def numT (l : List Int) : List UInt8 := if l = [] then [45] else Lib.join (l.map Lib.itoa) [44]
def needT (n : Need) : List UInt8 := n.kind.data.toList ++ 58 :: Lib.itoa n.many
def needsT (l : List Need) : List UInt8 := if l = [] then [45] else Lib.join (l.map needT) [44]
def setT (s : Nat) : List UInt8 := if s = 0 then [45] else textP s
def podW (p : Pod) : List (List UInt8) := [wPod, p.name.data.toList, Lib.itoa p.prio]
def contW (c : Cont) (g : Given) : List (List UInt8) :=
  [wCont, c.name.data.toList, Lib.itoa c.askM, Lib.itoa c.askB, Lib.itoa c.capM, Lib.itoa c.capB, needsT c.devs, setT g.cpus, numT g.devs]
/-- Words with a blank between. -/
def lineT (l : List (List UInt8)) : List UInt8 := Lib.join l [32]
def linesT : List (List (List UInt8)) → List UInt8
  | [] => []
  | l :: r => lineT l ++ 10 :: linesT r
def heldW (h : Held) : List (List (List UInt8)) := podW h.pod :: List.zipWith contW h.pod.conts h.given
def bodyW (l : List Held) : List (List (List UInt8)) := (l.map heldW).flatten
def bodyT (l : List Held) : List UInt8 := linesT (bodyW l)
def sumS (h : Nat) (c : UInt8) : Nat := (h ^^^ c.toNat) * 16777619 % 4294967296
def sumP (l : List UInt8) : Nat := l.foldl sumS 2166136261
def sumT (n : Nat) : List UInt8 := wSum ++ Lib.itoa (n : Int) ++ [10]
def summed (b : List UInt8) : List UInt8 := b ++ sumT (sumP b)
def textH (l : List Held) : List UInt8 := summed (bodyT l)
theorem linesT_app (a b : List (List (List UInt8))) : linesT (a ++ b) = linesT a ++ linesT b := by
  induction a with
  | nil => rfl
  | cons x a ih => simp [linesT, ih]
theorem sumP_snoc (l : List UInt8) (c : UInt8) : sumP (l ++ [c]) = sumS (sumP l) c := by
  unfold sumP
  rw [List.foldl_append, List.foldl_cons, List.foldl_nil]
theorem sumS_lt (h : Nat) (c : UInt8) : sumS h c < 4294967296 := by
  unfold sumS
  exact Nat.mod_lt _ (by omega)
theorem sumP_lt (l : List UInt8) : sumP l < 4294967296 := by
  rcases List.eq_nil_or_concat l with rfl | ⟨m, c, rfl⟩
  · unfold sumP
    rw [List.foldl_nil]
    omega
  · rw [List.concat_eq_append, sumP_snoc]
    exact sumS_lt _ _
/-! ### A text read -/
def intO (s : List UInt8) : Option Int :=
  match Lib.atoiAll s with
  | .ok v => some v
  | _ => none
def numO (s : List UInt8) : Option (List Int) := if s = [45] then some [] else (Lib.split s [44]).mapM intO
def needO (s : List UInt8) : Option Need := (intO (Lib.cut s [58]).2.1).map fun n => ⟨toB (Lib.cut s [58]).1, n⟩
def needsO (s : List UInt8) : Option (List Need) := if s = [45] then some [] else (Lib.split s [44]).mapM needO
def setO (s : List UInt8) : Option Nat := if s = [45] then some 0 else if (parseP s).2 = 0 then some (parseP s).1 else none
def conO (n a b c d e : List UInt8) : Option Cont :=
  (intO a).bind fun a => (intO b).bind fun b => (intO c).bind fun c => (intO d).bind fun d => (needsO e).map fun e => ⟨toB n, a, b, c, d, e⟩
def givO (s d : List UInt8) : Option Given := (setO s).bind fun s => (numO d).map fun d => ⟨s, d⟩
def addC (h : Held) (c : Cont) (g : Given) : Held := ⟨⟨h.pod.name, h.pod.prio, h.pod.conts ++ [c]⟩, h.given ++ [g]⟩
def lastO (l : List Held) (c : Cont) (g : Given) : Option (List Held) := (l.getLast?).map fun h => l.dropLast ++ [addC h c g]
def lineO (l : List Held) (w : List (List UInt8)) : Option (List Held) :=
  match w with
  | [k, n, p] => if k = wPod then (intO p).map fun p => l ++ [⟨⟨toB n, p, []⟩, []⟩] else none
  | [k, n, a, b, c, d, e, s, g] => if k = wCont ∧ l ≠ [] then (conO n a b c d e).bind fun c => (givO s g).bind fun g => lastO l c g else none
  | _ => none
def goO : Nat → Option (List Held) → List UInt8 → Option (List Held)
  | 0, o, _ => o
  | f + 1, o, rest => if rest = [] then o else goO f (o.bind fun l => lineO l (Lib.split (Lib.cut rest [10]).1 [32])) (Lib.cut rest [10]).2.1
def bodyO (b : List UInt8) : Option (List Held) := goO b.length (some []) b
end Sv
end Go.Proofs.YticmfflnenoplacGreatDoor
namespace Go.Proofs.YticmfflnenoplacGreatDoor.Flo

/-- Nothing but to go on. -/
def QF : Exit → Act → World → Prop := fun _ _ _ => False

section
variable {P : Program} {ops : Array Oper} {md : Region.Mode} {I : World → Prop}

/-- One operation, or its being passed over. -/
def opN (P : Program) (ops : Array Oper) (o : Oper) (K : Act → World → Prop) (a : Act) (w : World) : Prop :=
  if Region.wanted o (yielded ops a.tmps) = true then o.wp P a w K QF else K (a.put o.dst undef) w

theorem opN_mono {o : Oper} {a : Act} {w : World} {K K' : Act → World → Prop} (h : ∀ a w, K a w → K' a w) (hh : opN P ops o K a w) : opN P ops o K' a w := by
  unfold opN at *
  split
  · rename_i hw; rw [if_pos hw] at hh; exact Oper.wp_mono h hh
  · rename_i hw; rw [if_neg hw] at hh; exact h _ _ hh

theorem noLets : ¬ LetsOut QF := fun ⟨_, _, h⟩ => h

theorem wp_weak {o : Oper} {a : Act} {w : World} {K : Act → World → Prop} {Q : Exit → Act → World → Prop} (hh : o.wp P a w K QF) : o.wp P a w K Q := by
  unfold Oper.wp at *
  generalize (execOp a.eval o).run P w = r at *
  cases r with
  | ok n w' =>
    cases n <;> simp only [Oper.upon] at hh ⊢ <;>
      first
        | exact hh
        | exact Calls.mono hh (fun e w'' he => by cases e <;> first | exact he | exact he.elim | exact (noLets he).elim)
  | halt x w' => cases x <;> simp only [Oper.upon] at hh ⊢ <;> exact hh.elim

theorem wpOp_of_opN {i : Nat} {o : Oper} {a : Act} {w : World} {K : Act → World → Prop} {Q : Exit → Act → World → Prop} (ho : ops[i]? = some o) (hh : opN P ops o K a w) : wpOp P ops Q i K a w := by
  unfold opN at hh
  unfold wpOp
  simp only [ho]
  split
  · rename_i hw; rw [if_pos hw] at hh; exact .inl (wp_weak hh)
  · rename_i hw; rw [if_neg hw] at hh; exact hh

theorem opN_of_list {o : Oper} {a : Act} {w : World} {K : Act → World → Prop} (h : wpList P ops (Exit.then K QF) [o] a w) : opN P ops o K a w := by
  unfold wpList at h
  unfold opN
  split
  · rename_i hw
    rw [if_pos hw] at h
    rcases h with h | ⟨_, a1, w1, h⟩
    · have h2 : o.wp P a w K (Exit.then K QF) := Oper.wp_mono (fun _ _ h => h) h
      unfold Oper.wp at *
      generalize (execOp a.eval o).run P w = r at *
      cases r with
      | ok n w' =>
        cases n <;> simp only [Oper.upon] at h2 ⊢ <;>
          first
            | exact h2
            | exact Calls.mono h2 (fun e w'' he => by
                cases e
                · exact he
                · exact he
                · obtain ⟨_, _, he⟩ := he; exact he.elim)
      | halt x w' => cases x <;> simp only [Oper.upon] at h2 ⊢ <;> exact h2
    · exact h.elim
  · rename_i hw; rw [if_neg hw] at h; exact h

/-- What an operation that floats comes to: v in its slot, the world as it was. -/
def Yd (P : Program) (o : Oper) (a : Act) (v : Value) (w : World) : Result Next → Prop
  | .ok (.value u) w' => w' = w ∧ a.put o.dst u = a.put o.dst v
  | .ok .skip w' => w' = w ∧ a.put o.dst undef = a.put o.dst v
  | .ok (.enter f args) w' => Calls P f args w' (fun e w'' => ∃ u, e = .returned u ∧ w'' = w ∧ a.put o.dst u = a.put o.dst v)
  | .ok (.row row args) w' => Rows P row args w' (fun u w'' => w'' = w ∧ a.put o.dst u = a.put o.dst v)
  | _ => False
def YV (P : Program) (ops : Array Oper) (I : World → Prop) (o : Oper) (v : Value) (a : Act) : Prop :=
  (Region.wanted o (yielded ops a.tmps) = true ∧ ∀ w, I w → Yd P o a v w ((execOp a.eval o).run P w)) ∨ (Region.wanted o (yielded ops a.tmps) = false ∧ a.put o.dst undef = a.put o.dst v)

theorem YV.opN {o : Oper} {v : Value} {a : Act} {w : World} {K : Act → World → Prop} (hy : YV P ops I o v a) (hI : I w) (h : K (a.put o.dst v) w) : opN P ops o K a w := by
  unfold Flo.opN
  rcases hy with ⟨hw, hy⟩ | ⟨hw, he⟩
  · rw [if_pos hw]
    have hy := hy w hI
    unfold Oper.wp
    generalize (execOp a.eval o).run P w = r at *
    cases r with
    | ok n w' =>
      cases n <;> simp only [Yd] at hy <;> simp only [Oper.upon]
      case value u => rw [hy.1, hy.2]; exact h
      case skip => rw [hy.1, hy.2]; exact h
      case enter f args => exact hy.mono fun e w'' ⟨u, he, hw'', hp⟩ => by subst he; subst hw''; show K _ _; rw [hp]; exact h
      case row row args => exact hy.mono fun u w'' ⟨hw'', hp⟩ => by subst hw''; show K _ _; rw [hp]; exact h
    | halt x w' => simp only [Yd] at hy
  · rw [if_neg (by rw [hw]; simp), he]
    exact h

theorem put_eq {a : Act} {d : Option Tmp} {u v : Value} (h : a.put d u = a.put d v) (x : Option Tmp) (t : Value) (hne : ∀ k, x = some k → d ≠ some k) : (a.put x t).put d u = (a.put x t).put d v := by
  have hne' : ∀ k, d = some k → x ≠ some k := fun k hk hx => hne k hx hk
  rw [← Act.put_comm a u t hne', ← Act.put_comm a v t hne', h]
theorem put_eqD {a : Act} {d : Option Tmp} {u v : Value} (h : a.put d u = a.put d v) (x : Deferred) : ({ a with defers := x :: a.defers } : Act).put d u = ({ a with defers := x :: a.defers } : Act).put d v := by
  rw [← Act.put_defers, ← Act.put_defers, h]

theorem YV.of_same {o : Oper} {v : Value} {a a' : Act} (hy : YV P ops I o v a) (he : execOp a'.eval o = execOp a.eval o) (hw : Region.wanted o (yielded ops a'.tmps) = Region.wanted o (yielded ops a.tmps))
    (hp : ∀ u, a.put o.dst u = a.put o.dst v → a'.put o.dst u = a'.put o.dst v) : YV P ops I o v a' := by
  unfold YV at *
  rw [he, hw]
  rcases hy with ⟨h1, h2⟩ | ⟨h1, h2⟩
  · refine .inl ⟨h1, fun w hI => ?_⟩
    have hy := h2 w hI
    generalize (execOp a.eval o).run P w = r at *
    cases r with
    | ok n w' =>
      cases n <;> simp only [Yd] at hy ⊢
      case value u => exact ⟨hy.1, hp _ hy.2⟩
      case skip => exact ⟨hy.1, hp _ hy.2⟩
      case enter f args => exact hy.mono fun e w'' ⟨u, he, hw'', hq⟩ => ⟨u, he, hw'', hp _ hq⟩
      case row row args => exact hy.mono fun u w'' ⟨hw'', hq⟩ => ⟨hw'', hp _ hq⟩
    | halt x w' => simp only [Yd] at hy
  · exact .inr ⟨h1, hp _ h2⟩

theorem opN_put {oi oj : Oper} {v : Value} (hap : oi.apart ops oj = true) (hsi : ∀ cs b, oi.op ≠ .select cs b) (hsj : ∀ cs b, oj.op ≠ .select cs b) {K : Act → World → Prop} {a : Act} {w : World}
    (hy : YV P ops I oi v a) (h : opN P ops oj K (a.put oi.dst v) w) : opN P ops oj (fun a' w' => YV P ops I oi v a' ∧ K (a'.put oi.dst v) w') a w := by
  obtain ⟨h1, h2, h3⟩ := Oper.apart_spec hap
  have hn : ∀ k, oj.dst = some k → oi.dst ≠ some k := fun k hk hi => h2 k hi hk
  have keep : ∀ (a : Act), YV P ops I oi v a → ∀ u, YV P ops I oi v (a.put oj.dst u) := fun a hy u =>
    hy.of_same (execOp_put oi hsi a oj.dst u h3) (wanted_put oi a oj.dst u h3) fun t ht => put_eq ht _ _ hn
  have keepD : ∀ d, YV P ops I oi v { a with defers := d :: a.defers } := fun d => hy.of_same rfl rfl fun t ht => put_eqD ht d
  unfold opN at *
  rw [wanted_put oj a oi.dst v h1] at h
  split
  · rename_i hw
    rw [if_pos hw] at h
    unfold Oper.wp at *
    rw [execOp_put oj hsj a oi.dst v h1] at h
    generalize (execOp a.eval oj).run P w = r at *
    cases r with
    | ok n w' =>
      cases n <;> simp only [Oper.upon] at h ⊢
      case value u => exact ⟨keep a hy u, by rw [← Act.put_comm a v u h2]; exact h⟩
      case skip => exact ⟨keep a hy _, by rw [← Act.put_comm a v undef h2]; exact h⟩
      case defer d =>
        refine ⟨keep _ (keepD d) _, ?_⟩
        rw [← Act.put_comm _ v undef h2, ← Act.put_defers]
        exact h
      case enter f args =>
        refine Calls.mono h fun e w'' he => ?_
        cases e with
        | returned u => exact ⟨keep a hy u, by rw [← Act.put_comm a v u h2]; exact he⟩
        | panicked c => exact he
        | outgrown => exact he
      case row row args => exact Rows.mono h fun u w'' he => ⟨keep a hy u, by rw [← Act.put_comm a v u h2]; exact he⟩
    | halt x w' => cases x <;> simp only [Oper.upon] at h ⊢ <;> exact h
  · rename_i hw
    rw [if_neg hw] at h
    exact ⟨keep a hy _, by rw [← Act.put_comm a v undef h2]; exact h⟩

/-- Each order; ahead of the operation n all worlds are of the kind. -/
def anyI (P : Program) (md : Region.Mode) (ops : Array Oper) (I : World → Prop) (n : Nat) (Q : Act → World → Prop) : Nat → Array Bool → Act → World → Prop
  | 0, listed, a, w => Region.ready md ops listed = [] ∧ Q a w
  | f + 1, listed, a, w =>
    Region.ready md ops listed ≠ [] ∧
    ∀ i ∈ Region.ready md ops listed, ∃ o, ops[i]? = some o ∧ opN P ops o (fun a' w' => (i < n → I w') ∧ anyI P md ops I n Q f (listed.setIfInBounds i true) a' w') a w

theorem any_of_anyI {n : Nat} {Q : Exit → Act → World → Prop} : ∀ (f : Nat) (listed : Array Bool) (a : Act) (w : World), anyI P md ops I n (Q .normal) f listed a w → wpAny P md ops Q f listed a w
  | 0, _, _, _, h => h
  | f + 1, _, _, _, h => ⟨fun h0 => absurd h0 h.1, fun i hi => by
      obtain ⟨o, ho, hh⟩ := h.2 i hi
      exact wpOp_of_opN ho (opN_mono (fun a w h => any_of_anyI f _ a w h.2) hh)⟩

structure Closed (md : Region.Mode) (ops : Array Oper) (listed : Array Bool) : Prop where
  size : listed.size = ops.size
  closed : ∀ j oj, ops[j]? = some oj → listed.getD j false = true → ∀ e ∈ oj.after, Region.binds md e = true → listed.getD e.on false = true
theorem Closed.set {i : Nat} {listed : Array Bool} (inv : Closed md ops listed) (hi : i ∈ Region.ready md ops listed) : Closed md ops (listed.setIfInBounds i true) := by
  obtain ⟨_, oi, hoi, hall⟩ := mem_ready.1 hi
  refine ⟨by simp [inv.size], fun j oj hj hl e he hb => ?_⟩
  by_cases hij : i = j
  · subst hij
    have : oj = oi := Option.some.inj (hj.symm.trans hoi)
    subst this
    exact getD_set_true (hall e he hb)
  · rw [getD_set_ne false hij] at hl
    exact getD_set_true (inv.closed j oj hj hl e he hb)

/-- Masks of what goes ahead of each operation: each bit is told by an edge. -/
def ancB (md : Region.Mode) (ops : Array Oper) (B : Array Nat) : Bool :=
  (List.range ops.size).all fun t => match ops[t]? with
    | some o => (o.after.toList.all fun e => !Region.binds md e || decide (e.on < t)) && (List.range ops.size).all fun i => !(B.getD t 0).testBit i || o.after.toList.any fun e => Region.binds md e && (e.on == i || (B.getD e.on 0).testBit i)
    | none => true
theorem anc_listed {B : Array Nat} {listed : Array Bool} (hB : ancB md ops B = true) (inv : Closed md ops listed) (i : Nat) (hi : i < ops.size) :
    ∀ (t : Nat) (ot : Oper), ops[t]? = some ot → (∀ e ∈ ot.after, Region.binds md e = true → listed.getD e.on false = true) → (B.getD t 0).testBit i = true → listed.getD i false = true := by
  intro t
  induction t using Nat.strongRecOn with
  | _ t ih =>
    intro ot hot hall hbit
    have ht : t < ops.size := (Array.getElem?_eq_some_iff.1 hot).1
    have h1 := List.all_eq_true.1 hB t (List.mem_range.2 ht)
    simp only [hot, Bool.and_eq_true] at h1
    obtain ⟨hlt, h2⟩ := h1
    have h3 := List.all_eq_true.1 h2 i (List.mem_range.2 hi)
    simp only [hbit, Bool.not_true, Bool.false_or] at h3
    obtain ⟨e, he, h4⟩ := List.any_eq_true.1 h3
    simp only [Bool.and_eq_true, Bool.or_eq_true, beq_iff_eq] at h4
    obtain ⟨hb, h4⟩ := h4
    have he' : e ∈ ot.after := by simpa using he
    have hl := hall e he' hb
    rcases h4 with h4 | h4
    · rw [← h4]; exact hl
    · have h5 := List.all_eq_true.1 hlt e he
      simp only [hb, Bool.not_true, Bool.false_or, decide_eq_true_eq] at h5
      have hos : e.on < ops.size := by omega
      have hoe : ops[e.on]? = some ops[e.on] := by simp [hos]
      exact ih e.on h5 _ hoe (inv.closed _ _ hoe hl) h4

theorem anyI_first {n i : Nat} {oi : Oper} {v : Value} {B : Array Nat} {Q : Act → World → Prop} (hi : ops[i]? = some oi) (hsel : ∀ (j : Nat) (o : Oper) cs b, ops[j]? = some o → o.op ≠ .select cs b) (hB : ancB md ops B = true)
    (hanc : ∀ t, n ≤ t → t < ops.size → (B.getD t 0).testBit i = true) :
    ∀ (f : Nat) (listed : Array Bool) (a : Act) (w : World), Closed md ops listed → I w →
      (∀ j oj, ops[j]? = some oj → j ≠ i → listed.getD j true = false → (∀ e ∈ oj.after, Region.binds md e = true → e.on ≠ i) → oi.apart ops oj = true) →
      i ∈ Region.ready md ops listed → YV P ops I oi v a →
      anyI P md ops I n Q f (listed.setIfInBounds i true) (a.put oi.dst v) w → anyI P md ops I n Q (f + 1) listed a w := by
  intro f
  have his : i < ops.size := (Array.getElem?_eq_some_iff.1 hi).1
  induction f with
  | zero =>
    intro listed a w inv hI hfree hr hy H
    refine ⟨fun h => (by rw [h] at hr; cases hr), fun j hj => ?_⟩
    by_cases hji : j = i
    · subst hji; exact ⟨oi, hi, hy.opN hI ⟨fun _ => hI, H⟩⟩
    · have := ready_mono hj hji
      rw [H.1] at this
      cases this
  | succ f ih =>
    intro listed a w inv hI hfree hr hy H
    refine ⟨fun h => (by rw [h] at hr; cases hr), fun j hj => ?_⟩
    by_cases hji : j = i
    · subst hji; exact ⟨oi, hi, hy.opN hI ⟨fun _ => hI, H⟩⟩
    · obtain ⟨oj', hoj', h1⟩ := H.2 j (ready_mono hj hji)
      obtain ⟨hjun, oj, hoj, hall⟩ := mem_ready.1 hj
      obtain rfl : oj' = oj := Option.some.inj (hoj'.symm.trans hoj)
      have hun : listed.getD i false = false := getD_both (mem_ready.1 hr).1
      have hnot : ∀ e ∈ oj'.after, Region.binds md e = true → e.on ≠ i := fun e he hb heq => by
        have h1 := hall e he hb
        rw [heq, hun] at h1
        cases h1
      have hjn : j < n := by
        rcases Nat.lt_or_ge j n with h | h
        · exact h
        · have := anc_listed hB inv i his j oj' hoj hall (hanc j h (Array.getElem?_eq_some_iff.1 hoj).1)
          rw [hun] at this
          cases this
      have h2 := opN_put (hfree j oj' hoj hji hjun hnot) (fun cs b => hsel i oi cs b hi) (fun cs b => hsel j oj' cs b hoj) hy h1
      have hfree' : ∀ k ok, ops[k]? = some ok → k ≠ i → (listed.setIfInBounds j true).getD k true = false →
          (∀ e ∈ ok.after, Region.binds md e = true → e.on ≠ i) → oi.apart ops ok = true := fun k ok hk hki hun hno => by
        refine hfree k ok hk hki ?_ hno
        by_cases hjk : j = k
        · subst hjk; exact hjun
        · rw [getD_set_ne true hjk] at hun; exact hun
      refine ⟨oj', hoj, opN_mono (fun a' w' h3 => ⟨fun _ => h3.2.1 hjn, ih (listed.setIfInBounds j true) a' w' (inv.set hj) (h3.2.1 hjn) hfree' (ready_mono hr (Ne.symm hji)) h3.1 ?_⟩) h2⟩
      rw [Array.setIfInBounds_comm _ _ hji]
      exact h3.2.2

/-- The row of the head's operations: (k, true) floats. -/
def wpFl (P : Program) (ops : Array Oper) (I : World → Prop) (Q : Act → World → Prop) : List (Nat × Bool) → Act → World → Prop
  | [], a, w => Q a w
  | (k, true) :: rest, a, w => ∃ o v, ops[k]? = some o ∧ YV P ops I o v a ∧ wpFl P ops I Q rest (a.put o.dst v) w
  | (k, false) :: rest, a, w => ∃ o, ops[k]? = some o ∧ opN P ops o (fun a' w' => I w' ∧ wpFl P ops I Q rest a' w') a w

def walkB (md : Region.Mode) (ops : Array Oper) (n : Nat) : List (Nat × Bool) → Array Bool → Bool
  | [], listed => Region.seqB md ops (ops.size - n) n listed
  | (k, true) :: rest, listed => (Region.ready md ops listed).contains k && Region.free md ops listed k && walkB md ops n rest (listed.setIfInBounds k true)
  | (k, false) :: rest, listed => decide (Region.ready md ops listed = [k]) && walkB md ops n rest (listed.setIfInBounds k true)
def floats (n : Nat) (ops : Array Oper) (B : Array Nat) (hd : List (Nat × Bool)) : Bool := hd.all fun k => !k.2 || (List.range ops.size).all fun t => decide (t < n) || (B.getD t 0).testBit k.1
def flB (ops : Array Oper) (hd : List (Nat × Bool)) (n : Nat) : Bool :=
  Region.noSelect ops && ancB .any ops (Region.before ops) && floats n ops (Region.before ops) hd && walkB .any ops n hd (Array.replicate ops.size false)

theorem anyI_seq {n : Nat} {Q : Act → World → Prop} : ∀ (l : List Oper) (k : Nat) (listed : Array Bool) (a : Act) (w : World), (∀ j, l[j]? = ops[k + j]?) → n ≤ k →
    Region.seqB md ops l.length k listed = true → wpList P ops (Exit.then Q QF) l a w → anyI P md ops I n Q l.length listed a w
  | [], _, _, _, _, _, _, hB, h => ⟨by simpa [Region.seqB] using hB, h⟩
  | o :: l, k, listed, a, w, hl, hn, hB, h => by
    have h0 : ops[k]? = some o := by simpa using (hl 0).symm
    simp only [List.length_cons, Region.seqB, Bool.and_eq_true, decide_eq_true_eq] at hB
    refine ⟨fun h1 => (by rw [hB.1] at h1; cases h1), fun i hi => ?_⟩
    rw [hB.1] at hi
    have hik : i = k := by simpa using hi
    subst hik
    refine ⟨o, h0, opN_mono (fun a' w' h' => ⟨fun hlt => by omega, anyI_seq l (i + 1) _ a' w' (fun j => by have := hl (j + 1); simpa [Nat.add_assoc, Nat.add_comm 1 j] using this) (by omega) hB.2 h'⟩) (?_ : opN P ops o (wpList P ops (Exit.then Q QF) l) a w)⟩
    refine opN_of_list ?_
    unfold wpList at h ⊢
    split
    · rename_i hw
      rw [if_pos hw] at h
      rcases h with h | ⟨_, _, _, h⟩
      · refine .inl (Oper.wp_mono (fun _ _ h => h) ?_)
        unfold Oper.wp at *
        generalize (execOp a.eval o).run P w = r at *
        cases r with
        | ok x w' =>
          cases x <;> simp only [Oper.upon] at h ⊢ <;>
            first
              | exact h
              | exact Calls.mono h (fun e w'' he => by
                  cases e
                  · exact he
                  · exact he
                  · obtain ⟨_, _, he⟩ := he; exact he.elim)
        | halt x w' => cases x <;> simp only [Oper.upon] at h ⊢ <;> exact h
      · exact h.elim
    · rename_i hw; rw [if_neg hw] at h; exact h

theorem anyI_head {n g : Nat} {B : Array Nat} {Q : Act → World → Prop} (hsel : Region.noSelect ops = true) (hB : ancB md ops B = true) (hg : g = ops.size - n) {tl : Act → World → Prop}
    (htl : ∀ listed a w, Region.seqB md ops g n listed = true → tl a w → anyI P md ops I n Q g listed a w) :
    ∀ (hd : List (Nat × Bool)) (listed : Array Bool) (a : Act) (w : World), floats n ops B hd = true → walkB md ops n hd listed = true → Closed md ops listed → I w → wpFl P ops I tl hd a w → anyI P md ops I n Q (hd.length + g) listed a w
  | [], listed, a, w, _, hw, _, _, h => by
    simp only [List.length_nil, Nat.zero_add]
    exact htl _ _ _ (by subst hg; exact hw) h
  | (k, true) :: rest, listed, a, w, hfl, hw, inv, hI, h => by
    obtain ⟨o, v, ho, hy, h⟩ := h
    simp only [walkB, Bool.and_eq_true] at hw
    obtain ⟨⟨hr, hf⟩, hw⟩ := hw
    have hr' : k ∈ Region.ready md ops listed := by simpa using hr
    simp only [floats, List.all_cons, Bool.and_eq_true, Bool.not_true, Bool.false_or] at hfl
    have hanc : ∀ t, n ≤ t → t < ops.size → (B.getD t 0).testBit k = true := fun t h1 h2 => by
      have := List.all_eq_true.1 hfl.1 t (List.mem_range.2 h2)
      simp only [Bool.or_eq_true, decide_eq_true_eq] at this
      rcases this with this | this
      · omega
      · exact this
    have := anyI_first ho (Region.noSelect_spec hsel) hB hanc (rest.length + g) listed a w inv hI (Region.free_spec ho hf) hr' hy
      (anyI_head hsel hB hg htl rest _ _ _ hfl.2 hw (inv.set hr') hI h)
    rw [show ((k, true) :: rest).length + g = rest.length + g + 1 by simp; omega]
    exact this
  | (k, false) :: rest, listed, a, w, hfl, hw, inv, hI, h => by
    obtain ⟨o, ho, h⟩ := h
    simp only [walkB, Bool.and_eq_true, decide_eq_true_eq] at hw
    obtain ⟨hr, hw⟩ := hw
    simp only [floats, List.all_cons, Bool.and_eq_true] at hfl
    rw [show ((k, false) :: rest).length + g = rest.length + g + 1 by simp; omega]
    refine ⟨fun h1 => (by rw [hr] at h1; cases h1), fun i hi => ?_⟩
    have hi' := hi
    rw [hr] at hi
    have hik : i = k := by simpa using hi
    subst hik
    exact ⟨o, ho, opN_mono (fun a' w' h' => ⟨fun _ => h'.1, anyI_head hsel hB hg htl rest _ a' w' hfl.2 hw (inv.set hi') h'.1 h'.2⟩) h⟩

end

section
variable {P : Program} {I : World → Prop} {a : Act} {w : World} {l : List Oper}
/-- THE REGION: hd: its head, in an order of ours, each with: does it float?; n: the first of the tail, which goes as it is written. -/
theorem region {id : Nat} {Q : Exit → Act → World → Prop} (n : Nat) (hd : List (Nat × Bool)) (I : World → Prop) (hm : P.follows .mixedOrders = true) (hB : flB l.toArray hd n = true) (hl : hd.length + (l.length - n) = l.length) (hI : I w.drew)
    (h : wpFl P l.toArray I (fun a' w' => wpList P l.toArray (Exit.then (Q .normal) QF) (l.drop n) a' w') hd a w.drew) : (Code.region id l.toArray true).wp P Q a w := by
  simp only [flB, Bool.and_eq_true] at hB
  obtain ⟨⟨⟨hsel, hanc⟩, hfl⟩, hw⟩ := hB
  refine wp_region_any hm (any_of_anyI (I := I) (n := n) _ _ _ _ ?_)
  have := anyI_head (P := P) (I := I) (Q := Q .normal) (g := l.length - n) (tl := fun a' w' => wpList P l.toArray (Exit.then (Q .normal) QF) (l.drop n) a' w') hsel hanc (by simp)
    (fun listed a w hs h => by
      have := anyI_seq (P := P) (I := I) (md := .any) (n := n) (Q := Q .normal) (l.drop n) n listed a w (fun j => by simp [List.getElem?_drop]) (Nat.le_refl _) (by simpa using hs) h
      simpa using this) hd (Array.replicate l.toArray.size false) a w.drew hfl hw ⟨by simp, fun j oj _ hl => by rw [getD_replicate_false] at hl; cases hl⟩ hI h
  rw [hl] at this
  simpa using this

variable {ops : Array Oper} {Q : Act → World → Prop} {k : Nat} {rest : List (Nat × Bool)} {o : Oper} {a' : Act}
/-- An operation that floats: in every world of the kind it leads to one and the same frame. -/
theorem op (ho : ops[k]? = some o) (h : ∀ w, I w → ∀ K : Act → World → Prop, K a' w → wpList P ops (Exit.then K QF) [o] a w) (hI : I w) (hd : a'.defers = a.defers) (hn : wpFl P ops I Q rest a' w) : wpFl P ops I Q ((k, true) :: rest) a w := by
  have hv : ∃ v, a' = a.put o.dst v := by
    have := opN_of_list (h w hI (fun a1 _ => a1 = a') rfl)
    unfold opN at this
    split at this
    · unfold Oper.wp at this
      generalize (execOp a.eval o).run P w = r at *
      cases r with
      | ok n w' =>
        cases n <;> simp only [Oper.upon] at this
        case value u => exact ⟨_, this.symm⟩
        case skip => exact ⟨_, this.symm⟩
        case defer d =>
          exfalso
          rw [← this] at hd
          have hh : (({ a with defers := d :: a.defers } : Act).put o.dst undef).defers = d :: a.defers := by unfold Act.put; split <;> rfl
          rw [hh] at hd
          exact absurd (congrArg List.length hd) (by simp)
        case enter f args =>
          obtain ⟨e, w', _, hR, _⟩ := this []
          cases e with
          | returned u => exact ⟨_, hR.symm⟩
          | panicked c => exact hR.elim
          | outgrown => exact (noLets hR).elim
        case row row args =>
          obtain ⟨u, _, hR, _⟩ := this default []
          exact ⟨_, hR.symm⟩
      | halt x w' => cases x <;> simp only [Oper.upon] at this <;> exact this.elim
    · exact ⟨_, this.symm⟩
  obtain ⟨v, rfl⟩ := hv
  refine ⟨o, v, ho, ?_, hn⟩
  by_cases hw : Region.wanted o (yielded ops a.tmps) = true
  · refine .inl ⟨hw, fun w hI => ?_⟩
    have := opN_of_list (h w hI (fun a1 w1 => a1 = a.put o.dst v ∧ w1 = w) ⟨rfl, rfl⟩)
    unfold opN at this
    rw [if_pos hw] at this
    unfold Oper.wp at this
    generalize (execOp a.eval o).run P w = r at *
    cases r with
    | ok n w' =>
      cases n <;> simp only [Oper.upon] at this <;> simp only [Yd]
      case value u => exact ⟨this.2, this.1⟩
      case skip => exact ⟨this.2, this.1⟩
      case defer d =>
        have h1 := congrArg Act.defers this.1
        have hh : (({ a with defers := d :: a.defers } : Act).put o.dst undef).defers = d :: a.defers := by unfold Act.put; split <;> rfl
        rw [hh, hd] at h1
        exact absurd (congrArg List.length h1) (by simp)
      case enter f args =>
        refine this.mono fun e w'' he => ?_
        cases e with
        | returned u => exact ⟨u, rfl, he.2, he.1⟩
        | panicked c => exact he.elim
        | outgrown => exact (noLets he).elim
      case row row args => exact this.mono fun u w'' he => ⟨he.2, he.1⟩
    | halt x w' => cases x <;> simp only [Oper.upon] at this <;> exact this.elim
  · have := opN_of_list (h w hI (fun a1 w1 => a1 = a.put o.dst v ∧ w1 = w) ⟨rfl, rfl⟩)
    unfold opN at this
    rw [if_neg hw] at this
    exact .inr ⟨by simpa using hw, this.1⟩
/-- An operation in its row: the world behind it is of the kind, too. -/
theorem seq (ho : ops[k]? = some o) (h : ∀ K : Act → World → Prop, (∀ a' w', I w' → wpFl P ops I Q rest a' w' → K a' w') → wpList P ops (Exit.then K QF) [o] a w) : wpFl P ops I Q ((k, false) :: rest) a w :=
  ⟨o, ho, opN_of_list (h _ fun _ _ h1 h2 => ⟨h1, h2⟩)⟩
theorem nil (h : Q a w) : wpFl P ops I Q [] a w := h
/-- The tail, what stands behind it under a name. -/
theorem tail {Qn : Act → World → Prop} {tl : List Oper} (h : ∀ K : Act → World → Prop, (∀ a w, Qn a w → K a w) → wpList P ops (Exit.then K QF) tl a w) : wpFl P ops I (fun a' w' => wpList P ops (Exit.then Qn QF) tl a' w') [] a w := h _ fun _ _ h => h
end
theorem noUndef {p : Prop} {b : Bool} (h : some undef = some (Value.bool b)) : p := by cases h
theorem bcl {B : Nat} {W v : World} (hb : Go.RowKit.Below B W v) : (∀ b o, b < B → v.cell? ⟨b, o, none⟩ = W.cell? ⟨b, o, none⟩) ∧ (∀ b o, b < B → v.frozen? ⟨b, o, none⟩ = W.frozen? ⟨b, o, none⟩) :=
  ⟨fun b o h => hb.cell (p := ⟨b, o, none⟩) h, fun b o h => hb.frozen (p := ⟨b, o, none⟩) h⟩
end Go.Proofs.YticmfflnenoplacGreatDoor.Flo
namespace Go.Proofs.YticmfflnenoplacGreatDoor
open Go.RowKit

def RetB (b : Bool) (w : World) (e : Ending) (w' : World) : Prop := e = .returned (.bool b) ∧ w = w'
def RetBB (b : Bool) (w : World) (e : Ending) (w' : World) : Prop := e = .returned (.bool b) ∧ Below w.heap.size w w'

/-- An error by its number (0: none). -/
def errV (n : Int) : Value := if n = 0 then .nilIface else .iface 117 (.int .i64 n)
theorem errV_0 : errV 0 = .nilIface := rfl
theorem errV_pos (n : Int) (h : n ≠ 0) : errV n = .iface 117 (.int .i64 n) := by simp [errV, h]
theorem assertE (n : Int) (w : World) : (Instr.typeAssert (.iface 117 (.int .i64 n)) 26 117 true).run Tryz.prog w = .ok (.tuple #[.int .i64 n, .bool true]) w := by
  simp [Instr.typeAssert, run_underlying Tryz.underlying117]
theorem own_form {w : World} {base : Nat} {e : TypeId} {size n : Nat} {v : Value} {xs : List Value} (h : w.ownsRow base e size v n xs) : ∃ A cap, v = .slice A n cap ∧ n ≤ cap ∧ cap ≤ maxLen ∧ (0 < n → ∃ g, A = some ⟨g, 0, none⟩ ∧ g < w.heap.size ∧ base ≤ g) := by
  rcases h.2 with ⟨h1, h0⟩ | ⟨g, cap, cur, h1, h2, h3, h4, h5, _⟩
  · exact ⟨none, 0, by rw [h1, h0], by omega, by simp [maxLen], fun hn => by omega⟩
  · exact ⟨_, cap, h1, h4, h5, fun _ => ⟨g, rfl, Blk.lt (t := e) (cs := cur) h3, h2⟩⟩
theorem own_below {w w' : World} {base : Nat} {e : TypeId} {size n : Nat} {v : Value} {xs : List Value} (h : w.ownsRow base e size v n xs) (hb : Below w.heap.size w w') : w'.ownsRow base e size v n xs :=
  own_kept (S := fun _ => False) h (Kept.of_below hb) fun _ _ h => h
end Go.Proofs.YticmfflnenoplacGreatDoor
namespace Go.Proofs.YticmfflnenoplacGreatDoor
open Go.RowKit

/-- Like RSlice, its block of the kind S. -/
def RS {α : Type} (w : World) (S : Nat → Prop) (C : Nat) (R : List Value → α → Prop) (cs : List Value) (l : List α) : Prop :=
  ∃ A cap, cs = [.slice A l.length cap] ∧ l.length ≤ cap ∧ cap ≤ maxLen ∧
    (l.length = 0 ∨ ∃ b off, A = some ⟨b, off, none⟩ ∧ S b ∧ ∀ i (h : i < l.length), ∃ cs', cs'.length = C ∧ (∀ j u, cs'[j]? = some u → w.cell? ⟨b, off + i * C + j, none⟩ = some u) ∧ R cs' l[i])
theorem RS.of {α : Type} {w : World} {B C : Nat} {R : List Value → α → Prop} {cs : List Value} {l : List α} (h : RSlice w B C R cs l) : RS w (· < B) C R cs l := h
section
variable {α : Type} {w w' : World} {S S' : Nat → Prop} {C : Nat} {R R' : List Value → α → Prop} {cs : List Value} {l : List α}
theorem RS.move (h : RS w S C R cs l) (hw : ∀ b, S b → w'.heap[b]? = w.heap[b]?) (hS : ∀ b, S b → S' b) (hR : ∀ cs x, x ∈ l → R cs x → R' cs x) : RS w' S' C R' cs l := by
  obtain ⟨A, cap, h1, h2, h3, h4⟩ := h
  refine ⟨A, cap, h1, h2, h3, ?_⟩
  rcases h4 with h4 | ⟨b, off, hA, hb, h4⟩
  · exact .inl h4
  · refine .inr ⟨b, off, hA, hS b hb, fun i hi => ?_⟩
    obtain ⟨cs', hl, hc, hr⟩ := h4 i hi
    exact ⟨cs', hl, fun j u hu => (World.cell?_of_block (w := w) (a := ⟨b, off + i * C + j, none⟩) (hw b hb)).trans (hc j u hu), hR _ _ (List.getElem_mem _) hr⟩
theorem RS.form (h : RS w S C R cs l) : ∃ A cap, cs = [.slice A l.length cap] ∧ l.length ≤ cap ∧ cap ≤ maxLen ∧ (∀ k, k < l.length → ∃ b off, A = some ⟨b, off, none⟩ ∧ S b) := by
  obtain ⟨A, cap, h1, h2, h3, h4⟩ := h
  refine ⟨A, cap, h1, h2, h3, fun k hk => ?_⟩
  rcases h4 with h4 | ⟨b, off, hA, hb, _⟩
  · omega
  · exact ⟨b, off, hA, hb⟩
theorem RS.at_ {b off n cap : Nat} (h : RS w S C R [.slice (some ⟨b, off, none⟩) n cap] l) {i : Nat} (hi : i < l.length) :
    S b ∧ ∃ cs', cs'.length = C ∧ (∀ j u, cs'[j]? = some u → w.cell? ⟨b, off + i * C + j, none⟩ = some u) ∧ R cs' l[i] := by
  obtain ⟨A, cap', h1, h2, h3, h4⟩ := h
  rcases h4 with h4 | ⟨b', off', hA, hlt, h4⟩
  · omega
  · simp only [List.cons.injEq, Value.slice.injEq, and_true] at h1
    obtain ⟨hA', _⟩ := h1
    rw [hA] at hA'
    simp only [Option.some.injEq, Addr.mk.injEq, and_true] at hA'
    obtain ⟨rfl, rfl⟩ := hA'
    exact ⟨hlt, h4 i hi⟩
/-- All but the first. -/
theorem RS.tail {b off n cap : Nat} {x : α} (h : RS w S C R [.slice (some ⟨b, off, none⟩) n cap] (x :: l)) (A : Option Addr) (hA : 0 < l.length → A = some ⟨b, off + C, none⟩) : RS w S C R [.slice A (n - 1) (cap - 1)] l := by
  have hat := fun i (hi : i < l.length) => h.at_ (i := i + 1) (by simpa using hi)
  obtain ⟨A', cap', h1, h2, h3, h4⟩ := h
  simp only [List.cons.injEq, Value.slice.injEq, and_true] at h1
  obtain ⟨_, hn, rfl⟩ := h1
  simp only [List.length_cons] at hn h2
  refine ⟨A, cap - 1, by rw [hn]; simp, by omega, by omega, ?_⟩
  by_cases hz : l.length = 0
  · exact .inl hz
  · refine .inr ⟨b, off + C, hA (by omega), (hat 0 (by omega)).1, fun i hi => ?_⟩
    obtain ⟨_, cs', e1, e2, e3⟩ := hat i hi
    refine ⟨cs', e1, fun j u hu => ?_, by simpa using e3⟩
    have := e2 j u hu
    rw [show off + C + i * C + j = off + (i + 1) * C + j by rw [Nat.add_mul]; omega]
    exact this
theorem flatMap_at {f : α → List Value} (l : List α) (hf : ∀ x, x ∈ l → (f x).length = C) (i : Nat) (hi : i < l.length) (j : Nat) (hj : j < C) : (l.flatMap f)[i * C + j]? = (f l[i])[j]? := by
  induction l generalizing i with
  | nil => simp at hi
  | cons x l ih =>
    have hx := hf x (by simp)
    rw [List.flatMap_cons]
    cases i with
    | zero =>
      rw [List.getElem?_append_left (by omega)]
      simp
    | succ i =>
      rw [List.getElem?_append_right (by rw [hx, Nat.add_mul]; omega), hx, show (i + 1) * C + j - C = i * C + j by rw [Nat.add_mul]; omega, ih (fun y hy => hf y (by simp [hy])) i (by simpa using hi)]
      simp
/-- A slice of the call's own, read. -/
theorem RS.own {base : Nat} {e : TypeId} {v : Value} {f : α → List Value} (h : w.ownsRow base e C v l.length (l.flatMap f)) (hf : ∀ x, x ∈ l → (f x).length = C) (hR : ∀ x, x ∈ l → R (f x) x) (hS : ∀ g, v.ownBlock = some g → S g) : RS w S C R [v] l := by
  obtain ⟨A, cap, rfl, h1, h2, h3⟩ := own_form h
  refine ⟨A, cap, rfl, h1, h2, ?_⟩
  by_cases hz : l.length = 0
  · exact .inl hz
  · obtain ⟨g, rfl, _, _⟩ := h3 (by omega)
    refine .inr ⟨g, 0, rfl, hS g rfl, fun i hi => ⟨f l[i], hf _ (List.getElem_mem _), fun j u hu => ?_, hR _ (List.getElem_mem _)⟩⟩
    have hj : j < C := by
      have := (List.getElem?_eq_some_iff.1 hu).1
      rw [hf _ (List.getElem_mem _)] at this
      exact this
    have hlt : i * C + j < l.length * C := by
      have : i * C + C ≤ l.length * C := by rw [← Nat.succ_mul]; exact Nat.mul_le_mul_right _ hi
      omega
    rw [Nat.zero_add, h.cellAt _ hlt, flatMap_at l hf i hi j hj, hu]
/-- A block that was just made, read as a slice. -/
theorem RS.blk {g : Nat} {t : TypeId} {arr : Array Value} {f : α → List Value} (h : Blk w g t arr) (ha : arr.toList = l.flatMap f) (hl : l.length ≤ maxLen) (hf : ∀ x, x ∈ l → (f x).length = C) (hR : ∀ x, x ∈ l → R (f x) x) (hS : S g) : RS w S C R [.slice (some ⟨g, 0, none⟩) l.length l.length] l := by
  refine ⟨_, _, rfl, Nat.le_refl _, hl, .inr ⟨g, 0, rfl, hS, fun i hi => ⟨f l[i], hf _ (List.getElem_mem _), fun j u hu => ?_, hR _ (List.getElem_mem _)⟩⟩⟩
  have hj : j < C := by
    have := (List.getElem?_eq_some_iff.1 hu).1
    rw [hf _ (List.getElem_mem _)] at this
    exact this
  rw [Nat.zero_add, h.cell, ← Array.getElem?_toList, ha, flatMap_at l hf i hi j hj, hu]
end
end Go.Proofs.YticmfflnenoplacGreatDoor
namespace Go.Proofs.YticmfflnenoplacGreatDoor
open Go.RowKit Pop
theorem ones_r1 (x : Nat) (hx : x < 18446744073709551616) (hb : x1 x < 18446744073709551616) :
    IntKind.u64.wrap (bits .and .u64 ((x : Int) / 2) 6148914691236517205 + bits .and .u64 (x : Int) 6148914691236517205) = ((x1 x : Nat) : Int) := by
  rw [show ((x : Int) / 2) = ((x / 2 : Nat) : Int) from by simp, show (6148914691236517205 : Int) = ((6148914691236517205 : Nat) : Int) from rfl, u64_and_nat _ _ (by omega) (by omega), u64_and_nat _ _ hx (by omega), IntKind.wrap_u64]
  unfold x1 at *
  omega
theorem ones_r2 (x : Nat) (hx : x < 18446744073709551616) (hb : x2 x < 18446744073709551616) :
    IntKind.u64.wrap (bits .and .u64 ((x : Int) / 4) 3689348814741910323 + bits .and .u64 (x : Int) 3689348814741910323) = ((x2 x : Nat) : Int) := by
  rw [show ((x : Int) / 4) = ((x / 4 : Nat) : Int) from by simp, show (3689348814741910323 : Int) = ((3689348814741910323 : Nat) : Int) from rfl, u64_and_nat _ _ (by omega) (by omega), u64_and_nat _ _ hx (by omega), IntKind.wrap_u64]
  unfold x2 at *
  omega
theorem ones_r3 (x : Nat) (hb : x / 16 + x < 18446744073709551616) :
    bits .and .u64 (IntKind.u64.wrap ((x : Int) / 16 + (x : Int))) 1085102592571150095 = ((x3 x : Nat) : Int) := by
  rw [IntKind.wrap_u64, show (((x : Int) / 16 + (x : Int)) % 18446744073709551616) = ((x / 16 + x : Nat) : Int) from by omega, show (1085102592571150095 : Int) = ((1085102592571150095 : Nat) : Int) from rfl, u64_and_nat _ _ hb (by omega)]
  rfl
theorem ones_r4 (x k : Nat) : ((x : Int) + (x : Int) / (k : Int)) = ((x + x / k : Nat) : Int) := by simp
theorem ones_r7 (y : Nat) : bits .and .i64 (y : Int) 127 = ((y % 128 : Nat) : Int) := by
  rw [i64_and127]
  simp
def RetI (n : Int) (w : World) (e : Ending) (w' : World) : Prop := e = .returned (.int .i64 n) ∧ w = w'
section
attribute [local irreducible] x1 x2 x3
set_option maxHeartbeats 1000000 in
theorem ones_any (x : Nat) (hx : x < 18446744073709551616) (w : World) :
    Calls Tryz.prog 71 #[.int .u64 x] w (RetI (cnt x 64) w) := by
  obtain ⟨b1, b2, b3, b4, b5, b6, bc, be⟩ := fits x hx _ _ _ _ rfl rfl rfl rfl
  have h0 : (0 : Int) ≤ (x : Int) := by omega
  have h1 : (x : Int) ≤ 18446744073709551615 := by omega
  have E1 := Lib.hid (ones_r1 x hx b1)
  have E2 := Lib.hid (ones_r2 (x1 x) b1 b2)
  have E3 := Lib.hid (ones_r3 (x2 (x1 x)) bc)
  have E4 := Lib.hid (ones_r4 (x3 (x2 (x1 x))) 256)
  have E5 := Lib.hid (ones_r4 (x3 (x2 (x1 x)) + x3 (x2 (x1 x)) / 256) 65536)
  have E6 := Lib.hid (ones_r4 (x3 (x2 (x1 x)) + x3 (x2 (x1 x)) / 256 + (x3 (x2 (x1 x)) + x3 (x2 (x1 x)) / 256) / 65536) 4294967296)
  have BE := Lib.hid be
  have E7 := Lib.hid (ones_r7 (x3 (x2 (x1 x)) + x3 (x2 (x1 x)) / 256 + (x3 (x2 (x1 x)) + x3 (x2 (x1 x)) / 256) / 65536 + (x3 (x2 (x1 x)) + x3 (x2 (x1 x)) / 256 + (x3 (x2 (x1 x)) + x3 (x2 (x1 x)) / 256) / 65536) / 4294967296))
  have B3 : ((x3 (x2 (x1 x)) : Nat) : Int) ≤ 1000000000000000000 := by omega
  have B4 : ((x3 (x2 (x1 x)) + x3 (x2 (x1 x)) / 256 : Nat) : Int) ≤ 2000000000000000000 := by omega
  have B5 := b5
  have B6 := b6
  have B1 : ((x1 x : Nat) : Int) ≤ 18446744073709551615 := by omega
  have B2 : ((x2 (x1 x) : Nat) : Int) ≤ 18446744073709551615 := by omega
  generalize x1 x = y1 at *
  generalize x2 y1 = y2 at *
  generalize x3 y2 = y3 at *
  generalize y3 + y3 / 256 = y4 at *
  generalize y4 + y4 / 65536 = y5 at *
  generalize y5 + y5 / 4294967296 = y6 at *
  clear hx b1 b2 bc be
  go_enter Tryz.func71, Tryz.ntmps71
  go_upto_region 2 with fail
  rw [E1.out]
  go_upto_region 3 with fail
  rw [E2.out]
  go_upto_region 4 with fail
  rw [E3.out]
  go_upto_region 5 with fail
  rw [show (256 : Int) = ((256 : Nat) : Int) from rfl, E4.out]
  go_upto_region 6 with fail
  rw [show (65536 : Int) = ((65536 : Nat) : Int) from rfl, E5.out]
  go_upto_region 7 with fail
  rw [show (4294967296 : Int) = ((4294967296 : Nat) : Int) from rfl, E6.out]
  go_wp2_with fail
  rw [E7.out, BE.out]
  go_ret
  exact ⟨rfl, rfl⟩
end
set_option maxHeartbeats 400000 in
theorem Count_any (x : Nat) (hx : x < 18446744073709551616) (w : World) :
    Calls Tryz.prog 32 #[.int .u64 x] w (RetI (cnt x 64) w) := by
  have H := Lib.hid (ones_any x hx w)
  clear hx
  go_enter Tryz.func32, Tryz.ntmps32
  go_wp2_with fail
  refine H.out.mono ?_
  rintro e w' ⟨rfl, rfl⟩
  go_wp2_with fail
  go_ret
  exact ⟨rfl, rfl⟩
end Go.Proofs.YticmfflnenoplacGreatDoor
