/- The plain data that come in (pods, acts, uses ..) as structures, and how they lie in memory. -/
import Derived.Test.YticmfflnenoplabDoorBase
import Derived.Deep.Slices
import Derived.ChangeArms
import Derived.OpenShut
import Derived.ProofKit
namespace Go.Proofs.YticmfflnenoplabDoor
open Go.RowKit Go.Deep

namespace Da
structure Need where
  kind : ByteArray
  many : Int
structure Cont where
  name : ByteArray
  askM : Int
  askB : Int
  capM : Int
  capB : Int
  devs : List Need
structure Pod where
  name : ByteArray
  prio : Int
  conts : List Cont
structure Use where
  name : ByteArray
  bytes : Int
structure LAct where
  kind : ByteArray
  s : ByteArray
  a : Int
  b : Int
  m : Int
  l : List Int
  pod : Pod
  uses : List Use
end Da
open Da

/-- A slice whose elements have C cells each and read by R; all its cells lie below block B. -/
def RSlice {α : Type} (w : World) (B C : Nat) (R : List Value → α → Prop) (cs : List Value) (l : List α) : Prop :=
  ∃ A cap, cs = [.slice A l.length cap] ∧ l.length ≤ cap ∧ cap ≤ maxLen ∧
    (l.length = 0 ∨ ∃ b off, A = some ⟨b, off, none⟩ ∧ b < B ∧ ∀ i (h : i < l.length), ∃ cs', cs'.length = C ∧ (∀ j u, cs'[j]? = some u → w.cell? ⟨b, off + i * C + j, none⟩ = some u) ∧ R cs' l[i])
def RStr (cs : List Value) (s : ByteArray) : Prop := cs = [.string s] ∧ s.size ≤ maxLen
def RInt (cs : List Value) (n : Int) : Prop := cs = [.int .i64 n] ∧ -9223372036854775808 ≤ n ∧ n ≤ 9223372036854775807
def RNeed (cs : List Value) (n : Need) : Prop := cs = [.string n.kind, .int .i64 n.many] ∧ n.kind.size ≤ maxLen ∧ -9223372036854775808 ≤ n.many ∧ n.many ≤ 9223372036854775807
def RCont (w : World) (B : Nat) (cs : List Value) (c : Cont) : Prop :=
  ∃ dv, cs = [.string c.name, .int .i64 c.askM, .int .i64 c.askB, .int .i64 c.capM, .int .i64 c.capB, dv] ∧ c.name.size ≤ maxLen ∧
    (-9223372036854775808 ≤ c.askM ∧ c.askM ≤ 9223372036854775807) ∧ (-9223372036854775808 ≤ c.askB ∧ c.askB ≤ 9223372036854775807) ∧
    (-9223372036854775808 ≤ c.capM ∧ c.capM ≤ 9223372036854775807) ∧ (-9223372036854775808 ≤ c.capB ∧ c.capB ≤ 9223372036854775807) ∧ RSlice w B 2 RNeed [dv] c.devs
def RPod (w : World) (B : Nat) (cs : List Value) (p : Pod) : Prop :=
  ∃ cv, cs = [.string p.name, .int .i64 p.prio, cv] ∧ p.name.size ≤ maxLen ∧ (-9223372036854775808 ≤ p.prio ∧ p.prio ≤ 9223372036854775807) ∧ RSlice w B 6 (RCont w B) [cv] p.conts
def RUse (cs : List Value) (u : Use) : Prop := cs = [.string u.name, .int .i64 u.bytes] ∧ u.name.size ≤ maxLen ∧ -9223372036854775808 ≤ u.bytes ∧ u.bytes ≤ 9223372036854775807
def RAct (w : World) (B : Nat) (cs : List Value) (a : LAct) : Prop :=
  ∃ lv p0 p1 p2 uv, cs = [.string a.kind, .string a.s, .int .i64 a.a, .int .i64 a.b, .int .u8 a.m, lv, p0, p1, p2, uv] ∧ a.kind.size ≤ maxLen ∧ a.s.size ≤ maxLen ∧
    (-9223372036854775808 ≤ a.a ∧ a.a ≤ 9223372036854775807) ∧ (-9223372036854775808 ≤ a.b ∧ a.b ≤ 9223372036854775807) ∧ (0 ≤ a.m ∧ a.m ≤ 255) ∧
    RSlice w B 1 RInt [lv] a.l ∧ RPod w B [p0, p1, p2] a.pod ∧ RSlice w B 2 RUse [uv] a.uses

section
variable {α : Type} {w w' : World} {B C : Nat} {R R' : List Value → α → Prop} {cs : List Value} {l : List α}
theorem RSlice.mono (h : RSlice w B C R cs l) (hR : ∀ cs x, R cs x → R' cs x) : RSlice w B C R' cs l := by
  obtain ⟨A, cap, h1, h2, h3, h4⟩ := h
  refine ⟨A, cap, h1, h2, h3, ?_⟩
  rcases h4 with h4 | ⟨b, off, hA, hb, h4⟩
  · exact .inl h4
  · refine .inr ⟨b, off, hA, hb, fun i hi => ?_⟩
    obtain ⟨cs', hl, hc, hr⟩ := h4 i hi
    exact ⟨cs', hl, hc, hR _ _ hr⟩
theorem RSlice.below (h : RSlice w B C R cs l) (hb : Below B w w') : RSlice w' B C R cs l := by
  obtain ⟨A, cap, h1, h2, h3, h4⟩ := h
  refine ⟨A, cap, h1, h2, h3, ?_⟩
  rcases h4 with h4 | ⟨b, off, hA, hlt, h4⟩
  · exact .inl h4
  · refine .inr ⟨b, off, hA, hlt, fun i hi => ?_⟩
    obtain ⟨cs', hl, hc, hr⟩ := h4 i hi
    exact ⟨cs', hl, fun j u hu => (hb.cell (p := ⟨b, off + i * C + j, none⟩) hlt).trans (hc j u hu), hr⟩
/-- What a walk needs of a slice: its value, and at an index the cells of that element. -/
theorem RSlice.form (h : RSlice w B C R cs l) : ∃ A cap, cs = [.slice A l.length cap] ∧ l.length ≤ cap ∧ cap ≤ maxLen ∧ (∀ k, k < l.length → ∃ b off, A = some ⟨b, off, none⟩) := by
  obtain ⟨A, cap, h1, h2, h3, h4⟩ := h
  refine ⟨A, cap, h1, h2, h3, fun k hk => ?_⟩
  rcases h4 with h4 | ⟨b, off, hA, _, _⟩
  · omega
  · exact ⟨b, off, hA⟩
theorem RSlice.at_ {b off n cap : Nat} (h : RSlice w B C R [.slice (some ⟨b, off, none⟩) n cap] l) {i : Nat} (hi : i < l.length) :
    b < B ∧ ∃ cs', cs'.length = C ∧ (∀ j u, cs'[j]? = some u → w.cell? ⟨b, off + i * C + j, none⟩ = some u) ∧ R cs' l[i] := by
  obtain ⟨A, cap', h1, h2, h3, h4⟩ := h
  rcases h4 with h4 | ⟨b', off', hA, hlt, h4⟩
  · omega
  · simp only [List.cons.injEq, Value.slice.injEq, and_true] at h1
    obtain ⟨hA', _⟩ := h1
    rw [hA] at hA'
    simp only [Option.some.injEq, Addr.mk.injEq, and_true] at hA'
    obtain ⟨rfl, rfl⟩ := hA'
    exact ⟨hlt, h4 i hi⟩
end
theorem RCont.below {w w' : World} {B : Nat} {cs : List Value} {c : Cont} (h : RCont w B cs c) (hb : Below B w w') : RCont w' B cs c := by
  obtain ⟨dv, h1, h2, h3, h4, h5, h6, h7⟩ := h
  exact ⟨dv, h1, h2, h3, h4, h5, h6, h7.below hb⟩
theorem RPod.below {w w' : World} {B : Nat} {cs : List Value} {p : Pod} (h : RPod w B cs p) (hb : Below B w w') : RPod w' B cs p := by
  obtain ⟨cv, h1, h2, h3, h4⟩ := h
  exact ⟨cv, h1, h2, h3, (h4.mono fun _ _ h => h.below hb).below hb⟩
theorem RAct.below {w w' : World} {B : Nat} {cs : List Value} {a : LAct} (h : RAct w B cs a) (hb : Below B w w') : RAct w' B cs a := by
  obtain ⟨lv, p0, p1, p2, uv, h1, h2, h3, h4, h5, h6, h7, h8, h9⟩ := h
  exact ⟨lv, p0, p1, p2, uv, h1, h2, h3, h4, h5, h6, h7.below hb, h8.below hb, h9.below hb⟩

/-! ### Out of the form's own reading -/
section
variable {H : Type} {enc : TypeId × Value → H} {w : World} {spare : Nat → Bool} {held : Bool}
theorem i64_bounds {n : Int} (h : (Lit.int .i64 n).wf = true) : -9223372036854775808 ≤ n ∧ n ≤ 9223372036854775807 := bounds_i64 h
theorem add_spot {a : Addr} {v : Value} (h : w.cell? (a.add 0) = some v) : a.spot = none := by
  simpa [Addr.add] using World.cell?_spot h
theorem add_mk (b off n : Nat) : (⟨b, off, none⟩ : Addr).add n = ⟨b, off + n, none⟩ := by
  unfold Addr.add
  split
  · subst_vars; simp
  · rfl
theorem rslice_of {α : Type} {P : Program} {t e : TypeId} {C : Nat} {R : List Value → α → Prop} (ht : P.underlying t = some (.slice e)) (hC : P.cellsOf e = C) (hpos : 0 < C)
    (hR : ∀ fuel cs x, DataW.trod enc P w 0 spare held fuel e cs = some x → ∃ y, R cs y) {fuel : Nat} {cs : List Value} {x : DataW H × List MemPlace} (h : DataW.trod enc P w 0 spare held fuel t cs = some x) :
    ∃ l, RSlice w w.heap.size C R cs l := by
  rcases open_slice ht h with ⟨h0, _⟩ | ⟨a, len, cap, m, n, D, Pl, hcs, hb, hl, hm, hmm, hx, hi⟩
  · exact ⟨[], none, 0, by rw [h0]; rfl, by simp, by simp [maxLen], .inl rfl⟩
  · have hlm : len ≤ m := by rw [hmm]; split <;> omega
    by_cases hz : len = 0
    · subst hz
      exact ⟨[], some a, cap, by rw [hcs]; rfl, by simp, hm, .inl rfl⟩
    · have key : ∀ i, i < len → ∃ y, ∃ cs', cs'.length = C ∧ (∀ j u, cs'[j]? = some u → w.cell? (a.add (i * C + j)) = some u) ∧ R cs' y := by
        intro i hlt
        obtain ⟨cs', hc, htr⟩ := hi i (by omega)
        rw [hC] at hc
        obtain ⟨_, hcl, hat⟩ := World.cells?_some hc
        obtain ⟨y, hy⟩ := hR _ _ _ htr
        refine ⟨y, cs', hcl, fun j u hu => ?_, hy⟩
        have hj : j < C := by
          have := (List.getElem?_eq_some_iff.1 hu).1
          omega
        have := hat j hj
        rw [add_add] at this
        rw [this, hu]
      have : Inhabited α := ⟨(key 0 (by omega)).choose⟩
      obtain ⟨Y, hY⟩ := choose_lt (α := α) key
      have hspot : a.spot = none := by
        obtain ⟨cs', h1, h2, _⟩ := hY 0 (by omega)
        have : cs'[0]? = some cs'[0] := List.getElem?_eq_getElem (by omega)
        exact add_spot (by simpa using h2 0 _ this)
      obtain ⟨b, off, sp⟩ := a
      simp only at hspot
      subst hspot
      have hlt : b < w.heap.size := by
        obtain ⟨cs', h1, h2, _⟩ := hY 0 (by omega)
        have : cs'[0]? = some cs'[0] := List.getElem?_eq_getElem (by omega)
        have := h2 0 _ this
        rw [add_mk] at this
        exact World.block_lt_of_cell? w _ this
      refine ⟨(List.range len).map Y, some ⟨b, off, none⟩, cap, by rw [hcs]; simp, by simpa using hl, hm, .inr ⟨b, off, rfl, hlt, fun i hi' => ?_⟩⟩
      have hi2 : i < len := by simpa using hi'
      obtain ⟨cs', h1, h2, h3⟩ := hY i hi2
      refine ⟨cs', h1, fun j u hu => ?_, by simpa using h3⟩
      have := h2 j u hu
      rw [add_mk] at this
      rw [← this]
      congr 2
      omega
end
end Go.Proofs.YticmfflnenoplabDoor
