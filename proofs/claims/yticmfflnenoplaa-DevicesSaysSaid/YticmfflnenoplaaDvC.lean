/- Devices: how many there are on each node: Count, its walk; the reference's pool and its Count. No statement is proved here. -/
import Derived.Test.YticmfflnenoplaaHintsA
import Derived.Test.YticmfflnenoplaaDvB
namespace Go.Proofs.Yticmfflnenoplaa
open Go.RowKit Dv Mk
namespace Dv
def bump (a : A4) : Nat → A4
  | 0 => { a with a0 := a.a0 + 1 }
  | 1 => { a with a1 := a.a1 + 1 }
  | 2 => { a with a2 := a.a2 + 1 }
  | _ => { a with a3 := a.a3 + 1 }
def A4.arr (a : A4) : Array Value := #[.int .i64 a.a0, .int .i64 a.a1, .int .i64 a.a2, .int .i64 a.a3]
theorem arr_val (a : A4) : a.val = .agg (A4.arr a) := rfl
theorem bump_arr (a : A4) (n : Nat) (hn : n < 4) : (A4.arr a).setIfInBounds n (.int .i64 (a.get n + 1)) = A4.arr (bump a n) := by
  obtain ⟨a, b, c, d⟩ := a
  rcases (show n = 0 ∨ n = 1 ∨ n = 2 ∨ n = 3 by omega) with rfl | rfl | rfl | rfl <;> rfl
theorem arr_get (a : A4) (n : Nat) (hn : n < 4) : (A4.arr a)[n]? = some (.int .i64 (a.get n)) := by
  obtain ⟨a, b, c, d⟩ := a
  rcases (show n = 0 ∨ n = 1 ∨ n = 2 ∨ n = 3 by omega) with rfl | rfl | rfl | rfl <;> rfl
def In (a : A4) (k : Nat) : Prop := (0 ≤ a.a0 ∧ a.a0 ≤ k) ∧ (0 ≤ a.a1 ∧ a.a1 ≤ k) ∧ (0 ≤ a.a2 ∧ a.a2 ≤ k) ∧ (0 ≤ a.a3 ∧ a.a3 ≤ k)
theorem In.get {a : A4} {k : Nat} (h : In a k) (n : Nat) : 0 ≤ a.get n ∧ a.get n ≤ k := by
  obtain ⟨h0, h1, h2, h3⟩ := h
  unfold A4.get
  split <;> assumption
theorem In.more {a : A4} {k : Nat} (h : In a k) : In a (k + 1) := by
  obtain ⟨h0, h1, h2, h3⟩ := h
  refine ⟨?_, ?_, ?_, ?_⟩ <;> omega
theorem In.bump {a : A4} {k : Nat} (h : In a k) (n : Nat) : In (bump a n) (k + 1) := by
  obtain ⟨h0, h1, h2, h3⟩ := h
  unfold Dv.bump
  split <;> (refine ⟨?_, ?_, ?_, ?_⟩ <;> dsimp only <;> omega)
def cnt (k : ByteArray) (ps : List (Dev × Bool)) : A4 := ps.foldl (fun a p => if hit k p.1 && p.2 then bump a p.1.node.toNat else a) ⟨0, 0, 0, 0⟩
/-- Each with: does it count? -/
def withAll (l : List Dev) : List (Dev × Bool) := l.map fun d => (d, true)
def withFree (l : List Dev) (u : List Bool) : List (Dev × Bool) := l.zip (u.map (!·))
def cAll (k : ByteArray) (l : List Dev) : A4 := cnt k (withAll l)
def cFree (k : ByteArray) (l : List Dev) (u : List Bool) : A4 := cnt k (withFree l u)
theorem cnt_succ (k : ByteArray) (ps : List (Dev × Bool)) (i : Nat) (hi : i < ps.length) : cnt k (ps.take (i + 1)) = if hit k ps[i].1 && ps[i].2 then bump (cnt k (ps.take i)) ps[i].1.node.toNat else cnt k (ps.take i) := by
  unfold cnt
  rw [List.take_succ_eq_append_getElem hi, List.foldl_append]
  rfl
theorem cnt_in (k : ByteArray) (ps : List (Dev × Bool)) (i : Nat) (hi : i ≤ ps.length) : In (cnt k (ps.take i)) i := by
  induction i with
  | zero => exact ⟨⟨by simp [cnt], by simp [cnt]⟩, ⟨by simp [cnt], by simp [cnt]⟩, ⟨by simp [cnt], by simp [cnt]⟩, ⟨by simp [cnt], by simp [cnt]⟩⟩
  | succ i ih =>
    rw [cnt_succ k ps i (by omega)]
    split
    · exact (ih (by omega)).bump _
    · exact (ih (by omega)).more
theorem withFree_len (l : List Dev) (u : List Bool) (h : u.length = l.length) : (withFree l u).length = l.length := by simp [withFree, h]
theorem withFree_at (l : List Dev) (u : List Bool) (h : u.length = l.length) (i : Nat) (hi : i < l.length) : (withFree l u)[i]'(by rw [withFree_len l u h]; exact hi) = (l[i], !u[i]'(by omega)) := by simp [withFree]
theorem withAll_at (l : List Dev) (i : Nat) (hi : i < l.length) : (withAll l)[i]'(by simpa [withAll] using hi) = (l[i], true) := by simp [withAll]
/-- How many up to i. -/
def all_ (k : ByteArray) (l : List Dev) (i : Nat) : A4 := cnt k ((withAll l).take i)
def free_ (k : ByteArray) (l : List Dev) (u : List Bool) (i : Nat) : A4 := cnt k ((withFree l u).take i)
theorem all_zero (k : ByteArray) (l : List Dev) : all_ k l 0 = ⟨0, 0, 0, 0⟩ := rfl
theorem free_zero (k : ByteArray) (l : List Dev) (u : List Bool) : free_ k l u 0 = ⟨0, 0, 0, 0⟩ := rfl
theorem all_full (k : ByteArray) (l : List Dev) : all_ k l l.length = cAll k l := by unfold all_ cAll; rw [List.take_of_length_le (by simp [withAll])]
theorem free_full (k : ByteArray) (l : List Dev) (u : List Bool) (h : u.length = l.length) : free_ k l u l.length = cFree k l u := by unfold free_ cFree; rw [List.take_of_length_le (by rw [withFree_len l u h]; exact Nat.le_refl _)]
theorem all_in (k : ByteArray) (l : List Dev) (i : Nat) (hi : i ≤ l.length) : In (all_ k l i) i := cnt_in k _ i (by simpa [withAll] using hi)
theorem free_in (k : ByteArray) (l : List Dev) (u : List Bool) (h : u.length = l.length) (i : Nat) (hi : i ≤ l.length) : In (free_ k l u i) i := cnt_in k _ i (by rw [withFree_len l u h]; exact hi)
theorem all_hit (k : ByteArray) (l : List Dev) (i : Nat) (hi : i < l.length) (h : hit k l[i] = true) : all_ k l (i + 1) = bump (all_ k l i) l[i].node.toNat := by
  unfold all_
  rw [cnt_succ k _ i (by simpa [withAll] using hi), withAll_at l i hi]
  simp [h]
theorem all_miss (k : ByteArray) (l : List Dev) (i : Nat) (hi : i < l.length) (h : hit k l[i] = false) : all_ k l (i + 1) = all_ k l i := by
  unfold all_
  rw [cnt_succ k _ i (by simpa [withAll] using hi), withAll_at l i hi]
  simp [h]
theorem free_hit (k : ByteArray) (l : List Dev) (u : List Bool) (hu : u.length = l.length) (i : Nat) (hi : i < l.length) (h : hit k l[i] = true) (h2 : u[i]'(by omega) = false) : free_ k l u (i + 1) = bump (free_ k l u i) l[i].node.toNat := by
  unfold free_
  rw [cnt_succ k _ i (by rw [withFree_len l u hu]; exact hi), withFree_at l u hu i hi]
  simp [h, h2]
theorem free_miss (k : ByteArray) (l : List Dev) (u : List Bool) (hu : u.length = l.length) (i : Nat) (hi : i < l.length) (h : hit k l[i] = false ∨ u[i]'(by omega) = true) : free_ k l u (i + 1) = free_ k l u i := by
  unfold free_
  rw [cnt_succ k _ i (by rw [withFree_len l u hu]; exact hi), withFree_at l u hu i hi]
  rcases h with h | h <;> simp [h]
theorem hit_kind {k : ByteArray} {d : Dev} (h : (d.kind.toList == k.toList) = false) : hit k d = false := by simp [hit, h]
theorem hit_sick {k : ByteArray} {d : Dev} (h : d.sick = true) : hit k d = false := by simp [hit, h]
theorem hit_yes {k : ByteArray} {d : Dev} (h : (d.kind.toList == k.toList) = true) (h2 : d.sick = false) : hit k d = true := by simp [hit, h, h2]
end Dv
theorem four_set {w : World} {g : Nat} {t : TypeId} {x : A4} (h : Blk w g t (A4.arr x)) (a b c d : Int) : Blk ((((w.setCell ⟨g, 0, none⟩ (.int .i64 a)).setCell ⟨g, 1, none⟩ (.int .i64 b)).setCell ⟨g, 2, none⟩ (.int .i64 c)).setCell ⟨g, 3, none⟩ (.int .i64 d)) g t (A4.arr ⟨a, b, c, d⟩) :=
  (h.set_ 0 _ |>.set_ 1 _ |>.set_ 2 _ |>.set_ 3 _).cast rfl
def CountP (f a : A4) (w : World) (e : Ending) (w' : World) : Prop := e = .returned (.tuple #[f.val, a.val]) ∧ Below w.heap.size w w'
section
attribute [local irreducible] all_ free_ hit bump
set_option maxRecDepth 100000 in
set_option maxHeartbeats 4000000 in
theorem Count_any (base bp : Nat) (vl vu : Value) (l : List Dev) (u : List Bool) (k : ByteArray) (w : World) (h : Dv.Is w base bp vl vu l u) : Calls Try.prog 102 #[.pointer (some ⟨bp, 0, none⟩), .string k] w (CountP (cFree k l u) (cAll k l) w) := by
  have hc := h.blk.cells
  have hbl := h.blk.lt
  obtain ⟨A, c, rfl, q1, q2⟩ := h.rl.form
  obtain ⟨A2, c2, rfl, q3, q4, _⟩ := own_form h.ru
  have hn := h.rl.many
  have HU := Lib.hid h.len
  have HIS := Lib.hid h
  have HZ := Lib.hid (all_zero k l)
  have HZ2 := Lib.hid (free_zero k l u)
  unfold maxLen at q2 q4
  clear h
  go_enter Try.func102, Try.ntmps102
  go_wp2_with fail
  clear hc
  go_loopw [13] (fun i wi => ∃ m : Nat, i = .int .i64 m ∧ m ≤ l.length ∧ Below w.heap.size w wi ∧ Hid (Blk wi w.heap.size 75 (A4.arr (free_ k l u m))) ∧ Hid (Blk wi (w.heap.size + 1) 75 (A4.arr (all_ k l m)))) (fun i _ => l.length - (intOf i).toNat)
  case atStart =>
    refine ⟨0, rfl, by omega, ((Below.refl _ _).alloc (Nat.le_refl _) _).alloc (by simp) _, Lib.hid ?_, Lib.hid ?_⟩
    · rw [HZ2.out]; exact (Blk.new w _ _).alloc _
    · rw [HZ.out]; exact Blk.new1 w _ _ _
  case round =>
    obtain ⟨m, rfl, hm, hb, HF, HA⟩ := hrel
    have his := HIS.out.below hb
    by_cases hlt : m < l.length
    · obtain ⟨g, rfl, hg, c0, c1, c2'⟩ := his.rl.cell hlt
      have hfin := his.rl.fine l[m] (List.getElem_mem hlt)
      obtain ⟨n, hn0⟩ : ∃ n : Nat, l[m].node = (n : Int) := ⟨l[m].node.toNat, by have := hfin.2.1; omega⟩
      have hn4 : n < 4 := by have := hfin.2.2; omega
      obtain ⟨g2, rfl, hg2, cu⟩ := used_cell his.ru (i := m) (by have := HU.out; omega) HU.out
      have hp0 := his.blk.cells
      have hg2' : g2 < w.heap.size := (HIS.out.ru.lt g2 rfl).2
      have hg' : g < w.heap.size := (HIS.out.rl.row.lt g rfl).2
      have hb1 := HF.out.lt
      have hb2 := HA.out.lt
      have hxa := (all_in k l m (by omega)).get n
      have hxf := (free_in k l u HU.out m (by omega)).get n
      have ca := (HA.out.cells n).trans (arr_get _ n hn4)
      have cf := (HF.out.cells n).trans (arr_get _ n hn4)
      have za := HA.out.frozens
      have zf := HF.out.frozens
      have hbp := his.blk.lt
      have BA := Lib.hid (bump_arr (all_ k l m) n hn4)
      have BF := Lib.hid (bump_arr (free_ k l u m) n hn4)
      have hnt : l[m].node.toNat = n := by omega
      have HA1 := Lib.hid (all_hit k l m hlt)
      have HA0 := Lib.hid (all_miss k l m hlt)
      have HF1 := Lib.hid (free_hit k l u HU.out m hlt)
      have HF0 := Lib.hid (free_miss k l u HU.out m hlt)
      rw [hnt] at HA1 HF1
      generalize (all_ k l m).get n = xa at *
      generalize (free_ k l u m).get n = xf at *
      generalize u[m]'(by have := HU.out; omega) = b at *
      generalize l[m] = d at *
      obtain ⟨dk, dn, ds⟩ := d
      dsimp only at *
      subst hn0
      clear hnt hfin his
      have hbn := hb.alloc hb.size (.cells #[.string dk, .int .i64 n, .bool ds] 131)
      cases h1 : (dk.toList == k.toList)
      · have e1 := Lib.hid (HA0.out (hit_kind h1))
        have e2 := Lib.hid (HF0.out (.inl (hit_kind h1)))
        clear HA1 HA0 HF1 HF0
        go_wp2_with fail
        go_roundw
        case rel => exact ⟨m + 1, by go_num, by omega, hbn, Lib.hid (by rw [e2.out]; exact HF.out.alloc _), Lib.hid (by rw [e1.out]; exact HA.out.alloc _)⟩
        case measure => simp [intOf]; omega
      · cases ds
        · have e1 := Lib.hid (HA1.out (hit_yes h1 rfl))
          cases b
          · have e2 := Lib.hid (HF1.out (hit_yes h1 rfl) rfl)
            clear HA1 HA0 HF1 HF0
            go_wp2_with fail
            go_roundw
            case rel =>
              have q1 := hb.setCell (p := ⟨w.heap.size + 1, n, none⟩) (by simp) (.int .i64 (xa + 1))
              have q2 := q1.setCell (p := ⟨w.heap.size, n, none⟩) (Nat.le_refl _) (.int .i64 (xf + 1))
              refine ⟨m + 1, by go_num, by omega, q2.alloc q2.size _, Lib.hid ?_, Lib.hid ?_⟩
              · rw [e2.out, ← BF.out]
                exact ((HF.out.far (p := ⟨w.heap.size + 1, n, none⟩) (by simp) _).set_ n _).alloc _
              · rw [e1.out, ← BA.out]
                exact ((HA.out.set_ n _).far (p := ⟨w.heap.size, n, none⟩) (by simp) _).alloc _
            case measure => simp [intOf]; omega
          · have e2 := Lib.hid (HF0.out (.inr rfl))
            clear HA1 HA0 HF1 HF0
            go_wp2_with fail
            go_roundw
            case rel =>
              have q1 := hb.setCell (p := ⟨w.heap.size + 1, n, none⟩) (by simp) (.int .i64 (xa + 1))
              refine ⟨m + 1, by go_num, by omega, q1.alloc q1.size _, Lib.hid ?_, Lib.hid ?_⟩
              · rw [e2.out]
                exact (HF.out.far (p := ⟨w.heap.size + 1, n, none⟩) (by simp) _).alloc _
              · rw [e1.out, ← BA.out]
                exact (HA.out.set_ n _).alloc _
            case measure => simp [intOf]; omega
        · have e1 := Lib.hid (HA0.out (hit_sick rfl))
          have e2 := Lib.hid (HF0.out (.inl (hit_sick rfl)))
          clear HA1 HA0 HF1 HF0
          go_wp2_with fail
          go_roundw
          case rel => exact ⟨m + 1, by go_num, by omega, hbn, Lib.hid (by rw [e2.out]; exact HF.out.alloc _), Lib.hid (by rw [e1.out]; exact HA.out.alloc _)⟩
          case measure => simp [intOf]; omega
    · obtain rfl : m = l.length := by omega
      have e1 := Lib.hid (all_full k l)
      have e2 := Lib.hid (free_full k l u HU.out)
      rw [e1.out] at HA
      rw [e2.out] at HF
      have ca := HA.out.cells
      have cf := HF.out.cells
      have za := HA.out.frozens
      have zf := HF.out.frozens
      clear his e1 e2 HIS
      obtain ⟨⟨a0, a1, a2, a3⟩, hca⟩ : ∃ a, cAll k l = a := ⟨_, rfl⟩
      obtain ⟨⟨f0, f1, f2, f3⟩, hcf⟩ : ∃ a, cFree k l u = a := ⟨_, rfl⟩
      rw [hca] at ca HA
      rw [hcf] at cf HF
      have HB := Lib.hid hb
      have hz := HA.out.lt
      clear hb
      have HCA := Lib.hid hca
      have HCF := Lib.hid hcf
      clear hca hcf
      unfold A4.arr at ca cf
      dsimp only at ca cf
      go_wp2_with fail
      go_region_with (fail)
      all_goals
        go_wp2_with fail
        have kF := ((((four_set HF.out f0 f1 f2 f3).far (p := ⟨w.heap.size + 1, 0, none⟩) (by simp) (.int .i64 a0)).far (p := ⟨w.heap.size + 1, 1, none⟩) (by simp) (.int .i64 a1)).far (p := ⟨w.heap.size + 1, 2, none⟩) (by simp) (.int .i64 a2)).far (p := ⟨w.heap.size + 1, 3, none⟩) (by simp) (.int .i64 a3)
        have kA := four_set ((((HA.out.far (p := ⟨w.heap.size, 0, none⟩) (by simp) (.int .i64 f0)).far (p := ⟨w.heap.size, 1, none⟩) (by simp) (.int .i64 f1)).far (p := ⟨w.heap.size, 2, none⟩) (by simp) (.int .i64 f2)).far (p := ⟨w.heap.size, 3, none⟩) (by simp) (.int .i64 f3)) a0 a1 a2 a3
        have eF := kF.drew.cells
        have eA := kA.drew.cells
        refine bodyPost_ret (v := .tuple #[.agg #[.int .i64 f0, .int .i64 f1, .int .i64 f2, .int .i64 f3], .agg #[.int .i64 a0, .int .i64 a1, .int .i64 a2, .int .i64 a3]]) (by simp [results, Try.results102, go_sem, eF, eA, A4.arr]) rfl ⟨by rw [HCF.out, HCA.out]; rfl, ?_⟩
        refine Below.drew ?_
        iterate 4 (refine Below.setCell ?_ (by simp) _)
        iterate 4 (refine Below.setCell ?_ (by simp) _)
        exact HB.out
end
end Go.Proofs.Yticmfflnenoplaa
