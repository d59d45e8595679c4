/- Who goes first: rows sorted, in memory. No statement is proved here. -/
import Derived.Test.YticmfflnenoplacEvB
import Derived.Test.YticmfflnenoplacSl
import Derived.Test.YticmfflnenoplacShelfS
import Derived.Shelf.SlSortCmp.NoneTotal
namespace Go.Proofs.Yticmfflnenoplac
open Go.RowKit Go.Deep Go.Sort Da Qo Ev
section
variable {α : Type} [Inhabited α]
theorem flatK_list (enc : α → List Value) (k : Nat) (h0 : 0 < k) (hk : ∀ x, (enc x).length = k) (l : List α) : (flatK enc k l.toArray).toList = l.flatMap enc := by
  have hl : ∀ l : List α, (l.flatMap enc).length = l.length * k := by
    intro l
    induction l with
    | nil => simp
    | cons x l ih => rw [List.flatMap_cons, List.length_append, hk, ih, List.length_cons, Nat.add_mul]; omega
  apply List.ext_getElem?
  intro t
  by_cases ht : t < l.length * k
  · have hi : t / k < l.length := Nat.div_lt_of_lt_mul (by rw [Nat.mul_comm]; exact ht)
    have hj := Nat.mod_lt t h0
    have e := flatMap_at (C := k) (f := enc) l (fun x _ => hk x) (t / k) hi (t % k) hj
    rw [Nat.div_add_mod'] at e
    have hj2 : t % k < (enc l[t / k]).length := by rw [hk]; exact hj
    rw [e, List.getElem?_eq_getElem hj2, Array.getElem?_toList]
    simp only [flatK, List.size_toArray, Array.getElem?_map, Array.getElem?_range, ht, if_true, Option.map_some]
    rw [getElem!_pos l.toArray (t / k) (by simpa using hi), List.getElem_toArray, getElem!_pos (enc l[t / k]) (t % k) hj2]
  · rw [List.getElem?_eq_none (by simp; omega), List.getElem?_eq_none (by rw [hl]; omega)]
end
theorem own_sorted {w : World} {base g n c m size : Nat} {e : TypeId} {os : Array Obj} {xs : List Value} (F : List Value) (h : w.ownsRow base e size (.slice (some ⟨g, 0, none⟩) n c) n xs) (hF : F.length = xs.length) :
    (grow (putRow id (Sort.ahead w m) g 0 F.toArray) os).ownsRow base e size (.slice (some ⟨g, 0, none⟩) n c) n F := by
  obtain ⟨h1, h2⟩ := h
  refine ⟨by rw [hF, h1], ?_⟩
  rcases h2 with ⟨h2, _⟩ | ⟨g', cap, cur, h2, hb, hh, hn, hc, hs, ht⟩
  · cases h2
  · simp only [Value.slice.injEq, Option.some.injEq, Addr.mk.injEq, and_true, true_and] at h2
    obtain ⟨rfl, rfl⟩ := h2
    have hg : g < w.heap.size := (Array.getElem?_eq_some_iff.1 hh).1
    have hle : n * size ≤ cur.size := by rw [hs]; exact Nat.mul_le_mul_right _ hn
    refine .inr ⟨g, c, putCells id 0 F.toArray cur, rfl, hb, ?_, hn, hc, by simp [putCells, hs], ?_⟩
    · rw [heap_grow_old _ _ (by simpa using hg)]
      simp [putRow, mapBlock, Sort.ahead, Array.getElem?_modify, hh, onCells]
    · apply List.ext_getElem?
      intro j
      have hFl : F.length = n * size := by rw [hF, h1]
      by_cases hj : j < n * size
      · rw [List.getElem?_take_of_lt hj, Array.getElem?_toList]
        simp [putCells, show j < F.length by omega, show j < cur.size by omega]
      · rw [List.getElem?_take_eq_none (by omega), List.getElem?_eq_none (by omega)]
theorem grown_sorted {w : World} {g m : Nat} {os : Array Obj} (F : Array Value) : w.grownBy (grow (putRow id (Sort.ahead w m) g 0 F) os) (some g) := by
  refine ⟨rfl, rfl, rfl, by simp, fun k hk hne => ?_⟩
  rw [heap_grow_old _ _ (by simpa using hk)]
  have : g ≠ k := fun e => hne (by rw [e])
  simp [putRow, mapBlock, Sort.ahead, Array.getElem?_modify, this]
theorem Blk.new1 (w : World) (o : Obj) (t : TypeId) (cs : Array Value) : Blk ((w.alloc o).alloc (.cells cs t)) (w.heap.size + 1) t cs := by
  have := Blk.new (w.alloc o) t cs
  rwa [World.size_alloc] at this
/-- Just this world. -/
def AtW (W v : World) : Prop := v = W
def CloP (x y : Row) (w : World) (e : Ending) (w' : World) : Prop := e = .returned (.int .i64 (cf x y)) ∧ ∃ q os', w' = grow (w.drewN q) os'
theorem CloP.of {x y : Row} {w : World} {a b c : Obj} {n : Int} (h : cf x y = n) : CloP x y w (.returned (.int .i64 n)) (((w.alloc a).alloc b).drew.alloc c) :=
  ⟨by rw [h], 1, #[a, b, c], by
    rw [alloc_eq_grow, alloc_eq_grow, alloc_eq_grow]
    have h : ∀ (W : World) (os : Array Obj), (grow W os).drew = grow W.drew os := fun _ _ => rfl
    rw [h, h, grow_grow, grow_grow]
    rfl⟩
set_option maxRecDepth 100000 in
set_option maxHeartbeats 4000000 in
theorem clo_any (x y : Row) (w : World) : Calls Try.prog 15 #[.agg x.cells.toArray, .agg y.cells.toArray] w (CloP x y w) := by
  have HCF : Hid (cf x y = orF (x.over - y.over) (x.prio - y.prio) (cmpI y.more x.more) (cmpS x.name y.name)) := Lib.hid rfl
  obtain ⟨xo, xp, xm, xn, hx⟩ := x
  obtain ⟨yo, yp, ym, yn, hy⟩ := y
  have HX := Lib.hid hx
  have HY := Lib.hid hy
  have b1 := hx.1.1.1
  have b2 := hx.1.1.2
  have b3 := hx.1.2.1
  have b4 := hx.1.2.2
  have d1 := hy.1.1.1
  have d2 := hy.1.1.2
  have d3 := hy.1.2.1
  have d4 := hy.1.2.2
  dsimp only at *
  show Calls Try.prog 15 #[.agg #[.int .i64 xo, .int .i64 xp, .int .i64 xm, .string xn], .agg #[.int .i64 yo, .int .i64 yp, .int .i64 ym, .string yn]] w _
  have k1 := (Blk.new w 45 #[.int .i64 xo, .int .i64 xp, .int .i64 xm, .string xn]).alloc (.cells #[.int .i64 yo, .int .i64 yp, .int .i64 ym, .string yn] 45)
  have k2 := Blk.new1 w (.cells #[.int .i64 xo, .int .i64 xp, .int .i64 xm, .string xn] 45) 45 #[.int .i64 yo, .int .i64 yp, .int .i64 ym, .string yn]
  go_enter Try.func15, Try.ntmps15
  go_upto_region 1 with fail
  have HW : Hid (∀ a b c : Obj, True) := Lib.hid (fun _ _ _ => trivial)
  obtain ⟨W1, hW1⟩ : ∃ W1, W1 = (w.alloc (.cells #[.int .i64 xo, .int .i64 xp, .int .i64 xm, .string xn] 45)).alloc (.cells #[.int .i64 yo, .int .i64 yp, .int .i64 ym, .string yn] 45) := ⟨_, rfl⟩
  rw [← hW1] at k1 k2 ⊢
  have HW1 := Lib.hid hW1
  have c1 := k1.cells
  have c2 := k2.cells
  have l1 := k1.lt
  have l2 := k2.lt
  have HZ : Hid (W1.heap.size = w.heap.size + 1 + 1) := Lib.hid (by rw [hW1]; simp)
  clear hW1 HW
  have hI : AtW W1.drew W1.drew := rfl
  refine Flo.region 20 [(0, true), (1, true), (2, true), (3, true), (4, true), (5, true), (6, true), (7, true), (8, true), (9, true), (10, true), (11, true), (12, true), (13, true), (14, true), (15, true), (16, true), (17, true), (18, true), (19, true)] (AtW W1.drew) (by as_aux_lemma => kernel_rfl) (by as_aux_lemma => kernel_rfl) rfl hI ?_
  simp only [List.drop_succ_cons, List.drop_zero]
  iterate 20 (apply Flo.op rfl (hI := hI); (· intro v hv K hK; obtain rfl : v = W1.drew := hv; go_wp2_with (first | (go_at_call 17; refine (cmpI_any _ _ _).mono ?_; rintro e w' ⟨rfl, rfl⟩) | (go_at_call 18; refine (cmpS_any _ _ _).mono ?_; rintro e w' ⟨rfl, rfl⟩)); all_goals first | exact Flo.noUndef (by with_reducible assumption) | exact hK); (· rfl))
  refine Flo.tail fun K hK => ?_
  have HOR := Lib.hid (or_any (xo - yo) (xp - yp) (cmpI ym xm) (cmpS xn yn) W1.heap.size (W1.drew.alloc (.cells #[.int .i64 (xo - yo), .int .i64 (xp - yp), .int .i64 (cmpI ym xm), .int .i64 (cmpS xn yn)] 3)) (Blk.new W1.drew _ _))
  generalize cmpI ym xm = q1 at *
  generalize cmpS xn yn = q2 at *
  go_wp2_with fail
  refine HOR.out.mono ?_
  rintro e w' ⟨rfl, rfl⟩
  go_wp2_with fail
  go_ret
  rw [HW1.out]
  exact CloP.of HCF.out
/-- The rows sorted by the library. -/
theorem sortRows_any (v : Value) (base : Nat) (l : List Row) (w : World) (h : w.ownsRow base 45 4 v l.length (l.flatMap Row.cells)) (hl : l.length ≤ 1000000) :
    Calls Try.prog 14 #[v, .func (.func 15) #[] #[]] w fun e w' => e = .returned (.tuple #[]) ∧ w'.ownsRow base 45 4 v l.length ((sortR l).flatMap Row.cells) ∧ w.grownBy w' v.ownBlock := by
  have eg : ∀ args w, (callFunc 15 args).run Try.prog w = .ok (.enter 15 args) w := enters_of Try.func15 (by kernel_rfl) rfl
  obtain ⟨A, c, rfl, h1, h2, h3⟩ := own_form h
  rcases Nat.eq_zero_or_pos l.length with h0 | h0
  · have hn := List.length_eq_zero_iff.1 h0
    subst hn
    refine (AnyF.slices_SortFunc_none { ShelfS.Try.sortRow with } A c (.func (.func 15) #[] #[]) w).mono ?_
    rintro e w' ⟨rfl, rfl⟩
    have e0 : sortR ([] : List Row) = [] := by simp [sortR]
    rw [e0]
    exact ⟨rfl, h, ⟨rfl, rfl, rfl, Nat.le_refl _, fun _ _ _ => rfl⟩⟩
  · obtain ⟨g, rfl, hg, hb⟩ := h3 h0
    have hH : HoldsK Row.cells 4 w g 0 l.toArray := by
      intro j hj
      rw [size_flatK] at hj
      have hj2 : j < l.length * 4 := by simpa using hj
      refine ⟨?_, by rw [Nat.zero_add]; exact h.frozenAt j⟩
      rw [Nat.zero_add, h.cellAt j hj2, ← flatK_list Row.cells 4 (by omega) (fun _ => rfl) l, Array.getElem?_toList, getElem!_pos _ j (by simpa using hj)]
      exact Array.getElem?_eq_getElem (by simpa using hj)
    have hcon := AnyQ.slices_SortFunc_total ShelfS.Try.sortRow 4 Try.isAgg45 Try.sizeOf45 Row.cells (fun _ => rfl) (fun x v hv => by simp [Row.cells] at hv; rcases hv with rfl | rfl | rfl | rfl <;> rfl) cf swo 15 #[] g 0 c l.toArray w eg (fun _ _ _ _ x y => clo_any x y _) hH hg (by simp; omega) tot
    change Calls Try.prog 14 _ _ _ at hcon
    have e1 : l.toArray.size = l.length := by simp
    rw [e1] at hcon
    refine hcon.mono ?_
    rintro e w' ⟨rfl, n, os, rfl⟩
    have e2 : (sortR l).length = l.length := (sortR_perm l).length_eq
    have e3 : putRowK Row.cells 4 (Sort.ahead w n) g 0 (l.mergeSort fun x y => !ltB y x).toArray = putRow id (Sort.ahead w n) g 0 ((sortR l).flatMap Row.cells).toArray := by
      unfold putRowK
      rw [← flatK_list Row.cells 4 (by omega) (fun _ => rfl) (sortR l)]
      simp [sortR]
    refine ⟨rfl, ?_, ?_⟩
    · show (grow (putRowK Row.cells 4 (Sort.ahead w n) g 0 (l.mergeSort fun x y => !ltB y x).toArray) os).ownsRow _ _ _ _ _ _
      rw [e3]
      refine own_sorted _ h ?_
      have : ∀ l : List Row, (l.flatMap Row.cells).length = l.length * 4 := by
        intro l
        induction l with
        | nil => simp
        | cons x l ih => rw [List.flatMap_cons, List.length_append, ih, List.length_cons, Nat.add_mul]; simp [Row.cells]; omega
      rw [this, this, e2]
    · show w.grownBy (grow (putRowK Row.cells 4 (Sort.ahead w n) g 0 (l.mergeSort fun x y => !ltB y x).toArray) os) _
      rw [e3]
      exact grown_sorted _
end Go.Proofs.Yticmfflnenoplac
