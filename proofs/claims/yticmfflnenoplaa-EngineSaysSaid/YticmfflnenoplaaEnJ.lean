/- EngineSays: the list's own changes: one that is laid at the end and goes down; the row that is written. No statement is proved here. -/
import Derived.Test.YticmfflnenoplaaEnH
namespace Go.Proofs.Yticmfflnenoplaa
open Go.RowKit
namespace En
theorem flatR_set (l : List Run) (k : Nat) (hk : k < l.length) (x : Run) : ((((flatR l).set (k * 4) (.string x.pod)).set (k * 4 + 1) (.string x.cont)).set (k * 4 + 2) (.int .u64 x.cpus)).set (k * 4 + 3) (.slice x.dA x.devs.length x.dc) = flatR (l.set k x) := by
  induction l generalizing k with
  | nil => simp at hk
  | cons r l ih =>
    cases k with
    | zero => simp [flatR, Run.cells]
    | succ k =>
      have := ih k (by simpa using hk)
      rw [show (k + 1) * 4 = k * 4 + 1 + 1 + 1 + 1 by omega]
      simp only [flatR, List.flatMap_cons, Run.cells, List.cons_append, List.nil_append, List.set_cons_succ] at this ⊢
      rw [← this]
/-- A list with one laid in. -/
def insR (l : List Run) (t : Nat) (r : Run) : List Run := l.take t ++ r :: l.drop t
theorem insR_len (l : List Run) (t : Nat) (r : Run) (ht : t ≤ l.length) : (insR l t r).length = l.length + 1 := by simp [insR]; omega
theorem insR_at (l : List Run) (t : Nat) (r : Run) (ht : t ≤ l.length) : (insR l t r)[t]? = some r := by
  unfold insR
  rw [List.getElem?_append_right (by simp; omega)]
  simp [show min t l.length = t by omega]
theorem insR_below (l : List Run) (t : Nat) (r : Run) (ht : t ≤ l.length) (h0 : 0 < t) : (insR l t r)[t - 1]? = some (l[t - 1]'(by omega)) := by
  unfold insR
  rw [List.getElem?_append_left (by simp; omega), List.getElem?_take]
  simp [show t - 1 < t by omega, show t - 1 < l.length by omega]
theorem insR_down (l : List Run) (t : Nat) (r : Run) (ht : t ≤ l.length) (h0 : 0 < t) : ((insR l t r).set t (l[t - 1]'(by omega))).set (t - 1) r = insR l (t - 1) r := by
  obtain ⟨u, rfl⟩ : ∃ u, t = u + 1 := ⟨t - 1, by omega⟩
  simp only [Nat.add_sub_cancel]
  apply List.ext_getElem?
  intro i
  unfold insR
  rw [List.getElem?_set, List.getElem?_set]
  rcases (show i < u ∨ i = u ∨ i = u + 1 ∨ u + 1 < i by omega) with h | h | h | h
  · rw [if_neg (by omega), if_neg (by omega), List.getElem?_append_left (by simp; omega), List.getElem?_append_left (by simp; omega), List.getElem?_take, List.getElem?_take, if_pos (by omega), if_pos (by omega)]
  · subst h
    rw [if_pos rfl, if_pos (by simp; omega), List.getElem?_append_right (by simp; omega)]
    simp [show min i l.length = i by omega]
  · subst h
    rw [if_neg (by omega), if_pos rfl, if_pos (by simp; omega), List.getElem?_append_right (by simp; omega)]
    simp only [List.length_take, show min u l.length = u by omega, show u + 1 - u = 0 + 1 by omega, List.getElem?_cons_succ, List.getElem?_drop, Nat.add_zero]
    rw [List.getElem?_eq_getElem (by omega)]
  · rw [if_neg (by omega), if_neg (by omega), List.getElem?_append_right (by simp; omega), List.getElem?_append_right (by simp; omega)]
    simp only [List.length_take, show min (u + 1) l.length = u + 1 by omega, show min u l.length = u by omega]
    rw [show i - (u + 1) = (i - (u + 2)) + 1 by omega, show i - u = (i - (u + 2)) + 1 + 1 by omega, List.getElem?_cons_succ, List.getElem?_cons_succ, List.getElem?_drop, List.getElem?_drop]
    congr 1
    omega
theorem insR_end (l : List Run) (r : Run) : insR l l.length r = l ++ [r] := by simp [insR]
theorem isK_f1 {r : Run} {p c : ByteArray} (h : (r.pod.toList == p.toList) = false) : isK r p c = false := by simp [isK, h]
theorem isK_f2 {r : Run} {p c : ByteArray} (h : (r.cont.toList == c.toList) = false) : isK r p c = false := by simp [isK, h]
theorem isK_t {r : Run} {p c : ByteArray} (h : (r.pod.toList == p.toList) = true) (h2 : (r.cont.toList == c.toList) = true) : isK r p c = true := by simp [isK, h, h2]
end En
theorem far_fp {B bd : Nat} {wv : Value} (h1 : B ≤ bd) (h2 : ∀ g, wv.ownBlock = some g → B ≤ g) (b : Nat) (hb : b < B) : ¬ Dk.Fp bd wv b := by
  rintro (rfl | hx)
  · omega
  · have := h2 b hx
    omega
theorem own_set4 {w : World} {base g n cap : Nat} {l : List En.Run} (h : w.ownsRow base 117 4 (.slice (some ⟨g, 0, none⟩) n cap) n (En.flatR l)) (k : Nat) (hk : k < l.length) (x : En.Run) :
    ((((w.setCell ⟨g, k * 4, none⟩ (.string x.pod)).setCell ⟨g, k * 4 + 1, none⟩ (.string x.cont)).setCell ⟨g, k * 4 + 2, none⟩ (.int .u64 x.cpus)).setCell ⟨g, k * 4 + 3, none⟩ (.slice x.dA x.devs.length x.dc)).ownsRow base 117 4 (.slice (some ⟨g, 0, none⟩) n cap) n (En.flatR (l.set k x)) := by
  have h1 := (h.stored (k * 4) (.string x.pod)).1
  have h2 := (h1.stored (k * 4 + 1) (.string x.cont)).1
  have h3 := (h2.stored (k * 4 + 2) (.int .u64 x.cpus)).1
  have h4 := (h3.stored (k * 4 + 3) (.slice x.dA x.devs.length x.dc)).1
  rwa [En.flatR_set l k hk x] at h4
theorem kept_set4 {a w : World} {g : Nat} (h : Kept (fun q => q = g) a w) (i0 i1 i2 i3 : Nat) (u0 u1 u2 u3 : Value) : Kept (fun q => q = g) a ((((w.setCell ⟨g, i0, none⟩ u0).setCell ⟨g, i1, none⟩ u1).setCell ⟨g, i2, none⟩ u2).setCell ⟨g, i3, none⟩ u3) :=
  (((h.set1 _).set1 _).set1 _).set1 _
theorem row4 {w : World} {base g n cap : Nat} {l : List En.Run} (h : w.ownsRow base 117 4 (.slice (some ⟨g, 0, none⟩) n cap) n (En.flatR l)) {i : Nat} {r : En.Run} (hi : l[i]? = some r) :
    w.cell? ⟨g, i * 4, none⟩ = some (.string r.pod) ∧ w.cell? ⟨g, i * 4 + 1, none⟩ = some (.string r.cont) ∧ w.cell? ⟨g, i * 4 + 2, none⟩ = some (.int .u64 r.cpus) ∧ w.cell? ⟨g, i * 4 + 3, none⟩ = some (.slice r.dA r.devs.length r.dc) := by
  obtain ⟨hl, rfl⟩ := List.getElem?_eq_some_iff.1 hi
  have hn : l.length = n := by have h1 := h.1; rw [En.flatR_len] at h1; omega
  have c : ∀ j, j < 4 → w.cell? ⟨g, i * 4 + j, none⟩ = (En.Run.cells l[i])[j]? := fun j hj => (h.cellAt (i * 4 + j) (by omega)).trans (En.flatR_at l i hl j hj)
  exact ⟨c 0 (by omega), c 1 (by omega), c 2 (by omega), c 3 (by omega)⟩
theorem EM.toES {w0 w w' : World} {bd be bm bn : Nat} {s r : Dk.St} {lr lr' : List En.Run} {v7 v7' wvd wvm v : Value} {l : List En.Run} {lp : List En.PR} (h : EM w0 w bd be bm bn s r lr v7 wvd wvm v l lp)
    (hk : Kept (fun q => v7.ownBlock = some q) w w') (hrow : w'.ownsRow w0.heap.size 117 4 v7' lr'.length (En.flatR lr')) (hp : lp = lr'.map En.Run.pr) (hdv : ∀ x ∈ lr', RdI w0 (fun _ => True) x.dA x.devs ∧ x.devs.length ≤ 30)
    (hap : ∀ g, v.ownBlock = some g → v7'.ownBlock ≠ some g) : ES w0 w' bd be bm bn s r lr' v7' wvd wvm v l := by
  have hn : Only [117] w (fun q => v7.ownBlock = some q) := fun q hq => by
    obtain ⟨cs, hb⟩ := own_is h.row hq
    exact ⟨_, cs, by simp, hb⟩
  refine ⟨h.d.only hk hn (by decide) (by decide), h.m.only hk hn (by decide) (by decide), h.e.kept hk (hn.blk h.e.blk (by decide)) (fun g hg hx => h.apart g hg hx) (fun x hx => hn.own (h.e.devs x hx) (by decide)), hrow, h.pr.trans hp, hdv, h.names.kept hk (hn.blk h.names (by decide)), hap, h.hbd, h.hbe, h.hbm, h.hd, h.hm, h.bel.trans (hk.below h.bel.size fun q hlt hq => ?_)⟩
  have := (h.row.lt q hq).1
  omega
end Go.Proofs.Yticmfflnenoplaa
