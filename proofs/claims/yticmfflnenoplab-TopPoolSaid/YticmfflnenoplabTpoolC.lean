/- TopPool: small parts of its walk. No statement is proved here. -/
import Derived.Test.YticmfflnenoplabTpoolB
namespace Go.Proofs.Yticmfflnenoplab
open Go.RowKit Dv Da Mk
theorem dInts_flat (l : List Int) : dInts l = l.flatMap fun x => [.int .i64 x] := by
  unfold dInts
  induction l with
  | nil => rfl
  | cons x l ih => rw [List.map_cons, List.flatMap_cons, ih]; rfl
/-- Numbers of the call's own, read. -/
theorem rs_own {w : World} {base : Nat} {v : Value} {l : List Int} (h : w.ownsRow base 3 1 v l.length (dInts l)) (hb : ∀ x ∈ l, -9223372036854775808 ≤ x ∧ x ≤ 9223372036854775807) : RS w (fun b => v.ownBlock = some b) 1 RInt [v] l :=
  RS.own (f := fun x => [.int .i64 x]) (by
    rw [← dInts_flat]
    exact h) (fun _ _ => rfl) (fun x hx => ⟨rfl, hb x hx⟩) (fun g hg => hg)
theorem RSlice.up {α : Type} {w : World} {B B' C : Nat} {R : List Value → α → Prop} {cs : List Value} {l : List α} (h : RSlice w B C R cs l) (hB : B ≤ B') : RSlice w B' C R cs l := by
  obtain ⟨A, cap, h1, h2, h3, h4⟩ := h
  refine ⟨A, cap, h1, h2, h3, ?_⟩
  rcases h4 with h4 | ⟨b, off, hA, hb, h4⟩
  · exact .inl h4
  · exact .inr ⟨b, off, hA, by omega, h4⟩
theorem RSlice.below_up {α : Type} {w w' : World} {C : Nat} {R : List Value → α → Prop} {cs : List Value} {l : List α} (h : RSlice w w.heap.size C R cs l) (hb : Below w.heap.size w w') : RSlice w' w'.heap.size C R cs l := (h.below hb).up hb.size
theorem Dv.Is.base {w : World} {b b' bp : Nat} {vl vu : Value} {l : List Dev} {u : List Bool} (h : Dv.Is w b bp vl vu l u) (hb : b' ≤ b) : Dv.Is w b' bp vl vu l u := ⟨h.blk, ⟨dv_base h.rl.row hb, h.rl.many, h.rl.fine, h.rl.size⟩, dv_base h.ru hb, h.len⟩
def gpu : ByteArray := ⟨#[103, 112, 117]⟩
def gpu1 : List Dev := [⟨gpu, 0, false⟩]
theorem gpu1_new : newF gpu1 = 0 := by
  have h : Qo.nameMay gpu = true := by decide +kernel
  simp [newF, devF, gpu1, h]
theorem gpu1_both : both gpu 1 gpu1 [false] = [0] := by
  simp [both, nears, fars, gpu1, want, hit, nearB, bt, List.range_succ]
theorem gpu1_takeF : takeF gpu 1 1 gpu1 [false] = 0 := by
  unfold takeF
  rw [gpu1_both]
  decide
theorem gpu1_takeL : takeL gpu 1 1 gpu1 [false] = [0] := by
  unfold takeL chosen srt
  rw [gpu1_both]
  simp
theorem dv_slice_val {α : Type} {w : World} {B C : Nat} {R : List Value → α → Prop} {v : Value} {l : List α} (h : RSlice w B C R [v] l) : ∃ A n c, v = .slice A n c := by
  obtain ⟨A, cap, hv, _⟩ := h.form
  exact ⟨A, _, cap, by simpa using hv⟩
theorem dv_pod_val {w : World} {B : Nat} {p0 p1 p2 : Value} {p : Pod} (h : RPod w B [p0, p1, p2] p) : ∃ A n c, p0 = .string p.name ∧ p1 = .int .i64 p.prio ∧ p2 = .slice A n c := by
  obtain ⟨cv, he, _, _, hs⟩ := h
  obtain ⟨A, n, c, rfl⟩ := dv_slice_val hs
  simp only [List.cons.injEq, and_true] at he
  exact ⟨A, n, c, he⟩
theorem takeL_bound {k : ByteArray} {many : Int} {on : Nat} {l : List Dev} {u : List Bool} (hl : l.length ≤ 16) : (∀ x ∈ takeL k many on l u, -9223372036854775808 ≤ x ∧ x ≤ 9223372036854775807) ∧ (takeL k many on l u).length ≤ 1000000 := by
  unfold takeL
  refine ⟨fun x hx => ?_, ?_⟩
  · have := chosen_bound ((srt_perm _).mem_iff.1 hx)
    omega
  · rw [srt_len]
    unfold chosen
    rw [List.length_map, List.length_take]
    have := both_len k on l u
    omega
theorem rs_nil (w : World) : RS w (fun _ => False) 1 RInt [.slice none 0 0] [] := ⟨none, 0, rfl, by simp, by simp [maxLen], .inl rfl⟩
theorem isF_01 (n : Nat) (x : Int) : (isF n x = 1 ∧ (x < 0 ∨ (n : Int) ≤ x)) ∨ (isF n x = 0 ∧ 0 ≤ x ∧ x < n) := by
  unfold isF
  split
  · rename_i h; exact .inl ⟨rfl, h⟩
  · exact .inr ⟨rfl, by omega, by omega⟩
/-- Who is sick, up to k. -/
def sickK (l : List Dev) (k : Nat) : List Bool := (l.take k).map Dev.sick ++ List.replicate (l.length - k) false
theorem sickK_zero (l : List Dev) : sickK l 0 = List.replicate l.length false := by simp [sickK]
theorem sickK_all (l : List Dev) : sickK l l.length = l.map Dev.sick := by simp [sickK]
theorem sickK_len (l : List Dev) {k : Nat} (hk : k ≤ l.length) : (sickK l k).length = l.length := by simp [sickK]; omega
theorem sickK_succ (l : List Dev) {k : Nat} (hk : k < l.length) : sickK l (k + 1) = (sickK l k).set k l[k].sick := by
  unfold sickK
  rw [List.take_succ_eq_append_getElem hk, List.map_append, List.map_cons, List.map_nil, List.set_append_right _ _ (by simp; omega)]
  have e : l.length - k = (l.length - (k + 1)) + 1 := by omega
  have e2 : k - (List.map Dev.sick (List.take k l)).length = 0 := by simp; omega
  rw [e, e2, List.replicate_succ, List.set_cons_zero, List.append_assoc]
  rfl
theorem sickL_map {l : List Dev} {k : Nat} (hk : k < l.length) (b : Bool) : (sickL l k b).map Dev.sick = (l.map Dev.sick).set k b := by
  rw [sickL_ok hk, List.map_set]
theorem sickL_kinds {l : List Dev} (x : Int) (b : Bool) : (sickL l x b).map Dev.kind = l.map Dev.kind := by
  by_cases h : x < 0 ∨ (l.length : Int) ≤ x
  · rw [sickL_bad h]
  · obtain ⟨k, rfl⟩ : ∃ k : Nat, x = k := ⟨x.toNat, by omega⟩
    have hk : k < l.length := by omega
    rw [sickL_ok hk, List.map_set]
    apply List.ext_getElem?
    intro i
    rw [List.getElem?_set]
    split
    · rename_i h
      subst h
      rw [if_pos (by simpa using hk)]
      simp [hk]
    · rfl
theorem str_of {a b : ByteArray} (h : (a.toList == b.toList) = true) : a = b := by
  have h2 := eq_of_beq h
  rw [ByteArray.toList_eq, ByteArray.toList_eq] at h2
  exact Go.WideShapes.bytes_inj h2
theorem hit_is {k : ByteArray} {d : Dev} (h : hit k d = true) : d.kind = k ∧ d.sick = false := by
  unfold hit at h
  rw [Bool.and_eq_true, Bool.not_eq_true'] at h
  exact ⟨str_of h.1, h.2⟩
theorem below_drewN7 {B : Nat} {a w : World} (h : Below B a w) (n : Nat) : Below B a (w.drewN n) := ⟨h.os, h.tape, h.output, h.size, h.block⟩
/-- What is told of what was taken. -/
structure TkX (lp : List Dev) (u : List Bool) (str : ByteArray) (xa : Int) (x : List Int) : Prop where
  at_ : ∀ i (hi : i < x.length), ∃ n : Nat, ∃ hn : n < lp.length, x[i] = n ∧ u.getD n true = false ∧ lp[n].kind = str ∧ lp[n].sick = false
  up : ∀ i (_ : 0 < i) (hi : i < x.length), x[i - 1]'(by omega) < x[i]
  new : ∀ i (hi : i < x.length), x[i] ∉ x.take i
  len : (x.length : Int) = xa
  few : x.length ≤ 1000000
theorem TkX.of {lp : List Dev} {u : List Bool} {str : ByteArray} {xa : Int} {on : Nat} (hu : u.length = lp.length) (hl : lp.length ≤ 16) (h : takeF str xa on lp u = 0) : TkX lp u str xa (takeL str xa on lp u) := by
  refine ⟨fun i hi => ?_, fun i h0 hi => took_lt str xa on lp u i h0 hi, fun i hi => took_not str xa on lp u i hi, took_len h, (takeL_bound hl).2⟩
  obtain ⟨n, hn, h1, h2, h3⟩ := took hu (List.getElem_mem hi)
  refine ⟨n, hn, h1, ?_, (hit_is h3).1, (hit_is h3).2⟩
  rw [List.getD, List.getElem?_eq_getElem (by omega)]
  exact h2
theorem mark_perm {u : List Bool} {xs ys : List Int} (hp : xs.Perm ys) (h0 : ∀ y ∈ xs, 0 ≤ y) : markU u true xs = markU u true ys := by
  apply List.ext_getElem
  · rw [markU_len, markU_len]
  · intro i h1 h2
    rw [markU_len] at h1
    rw [markU_atI true xs u i h0 h1, markU_atI true ys u i (fun y hy => h0 y (hp.mem_iff.2 hy)) h1]
    simp only [hp.mem_iff]
theorem takeU_is {lp : List Dev} {u : List Bool} {str : ByteArray} {xa : Int} {on : Nat} (h : takeF str xa on lp u = 0) : takeU str xa on lp u = markU u true (takeL str xa on lp u) := by
  unfold takeU
  rw [if_pos h]
  refine mark_perm ?_ (fun y hy => (chosen_bound hy).1)
  exact (srt_perm _).symm
theorem TkX.pos {lp : List Dev} {u : List Bool} {str : ByteArray} {xa : Int} {x : List Int} (h : TkX lp u str xa x) : ∀ y ∈ x, 0 ≤ y := by
  intro y hy
  obtain ⟨i, hi, rfl⟩ := List.getElem_of_mem hy
  obtain ⟨n, _, e, _⟩ := h.at_ i hi
  omega
theorem TkX.mine {lp : List Dev} {u : List Bool} {str : ByteArray} {xa : Int} {x : List Int} (h : TkX lp u str xa x) (hu : u.length = lp.length) {i n : Nat} (hi : i < x.length) (he : x[i] = n) (hn : n < lp.length) : (markU u true (x.take i))[n]'(by rw [markU_len]; omega) = false := by
  rw [markU_atI true (x.take i) u n (fun y hy => h.pos y (List.mem_of_mem_take hy)) (by omega), if_neg (by rw [← he]; exact h.new i hi)]
  obtain ⟨n', hn', e, hf, _⟩ := h.at_ i hi
  have : n' = n := by omega
  subst this
  rw [List.getD, List.getElem?_eq_getElem (by omega)] at hf
  exact hf
theorem TkX.good {lp : List Dev} {u : List Bool} {str : ByteArray} {xa : Int} {x : List Int} (h : TkX lp u str xa x) (hu : u.length = lp.length) : Good lp.length (markU u true x) x :=
  good_mark hu fun y hy => by
    obtain ⟨i, hi, rfl⟩ := List.getElem_of_mem hy
    obtain ⟨n, hn, e, _⟩ := h.at_ i hi
    exact ⟨n, e, hn⟩
theorem mark_next {u : List Bool} {b : Bool} {x : List Int} {i n : Nat} (hi : i < x.length) (he : x[i] = n) : (markU u b (x.take i)).set n b = markU u b (x.take (i + 1)) := by
  rw [markU_succ u b x i hi, he]
  rfl
/-- The main loop's word: what is mine is what is used, the sick ones are the pool's. -/
structure TK (w0 w : World) (bp b9 b10 : Nat) (vl vu : Value) (l0 : List Dev) (v12 : Value) : Prop where
  mk_ ::
  ex : ∃ (lp : List Dev) (u : List Bool) (A : Option Addr) (c : Nat) (last : List Int), v12 = .slice A last.length c ∧ lp.length = l0.length ∧ TP w0 w bp b9 b10 vl vu l0 lp u u (lp.map Dev.sick) A c last ∧ Good lp.length u last
section
variable {w0 w w' : World} {bp b9 b10 c c' n : Nat} {vl vu : Value} {l0 lp : List Dev} {u m sk : List Bool} {A : Option Addr} {last : List Int}
/-- The act's own block stands apart from all that is written. -/
theorem TP.act {g : Nat} {cs : Array Value} (h : TP w0 w bp b9 b10 vl vu l0 lp u m sk A c last) (ka : Blk w g 84 cs) : vl.ownBlock ≠ some g ∧ vu.ownBlock ≠ some g ∧ g ≠ b9 ∧ g ≠ b10 :=
  ⟨own_blk_ne h.p.rl.row ka (by decide), own_blk_ne h.p.ru ka (by decide), Blk.ne_ ka h.mine (by decide), Blk.ne_ ka h.sick (by decide)⟩
theorem TP.lastAt {g : Nat} (h : TP w0 w bp b9 b10 vl vu l0 lp u m sk (some ⟨g, 0, none⟩) c last) {i n : Nat} (hi : i < last.length) (he : last[i] = n) : w.cell? ⟨g, i, none⟩ = some (.int .i64 n) := by
  rw [h.row.cellAt i (by omega), ← he]
  simp [dInts, hi]
theorem TP.lastAddr (h : TP w0 w bp b9 b10 vl vu l0 lp u m sk A c last) {i : Nat} (hi : i < last.length) : ∃ g, A = some ⟨g, 0, none⟩ ∧ g < w.heap.size := by
  obtain ⟨A', c', e, _, _, h3⟩ := own_form h.row
  simp only [Value.slice.injEq, true_and] at e
  obtain ⟨rfl, rfl⟩ := e
  obtain ⟨g, rfl, hg, _⟩ := h3 (by omega)
  exact ⟨g, rfl, hg⟩
theorem TP.lastRS (h : TP w0 w bp b9 b10 vl vu l0 lp u m sk A c last) (hg : Good n u last) (hn : n ≤ 16) : RS w (fun b => (Value.slice A last.length c).ownBlock = some b) 1 RInt [.slice A last.length c] last :=
  rs_own h.row fun x hx => by
    obtain ⟨q, rfl, hq, _⟩ := hg x hx
    omega
theorem TP.lastSep (h : TP w0 w bp b9 b10 vl vu l0 lp u m sk A c last) : ∀ b, (Value.slice A last.length c).ownBlock = some b → vu.ownBlock ≠ some b ∧ b < w.heap.size :=
  fun b hb => ⟨dv_own_ne h.row h.p.ru (by decide) hb, (h.row.lt b hb).2⟩
theorem TP.noRow (h : TP w0 w bp b9 b10 vl vu l0 lp u m sk A c last) : TP w0 w bp b9 b10 vl vu l0 lp u m sk none 0 [] :=
  h.newRow (last' := []) (A' := none) (c' := 0) (World.ownsRow_nil _ _ _ _)
theorem TP.len0 (h : TP w0 w bp b9 b10 vl vu l0 lp u m sk A c last) : lp.length = l0.length := by
  have := congrArg List.length h.kinds
  simpa using this
theorem TP.start (hp : Dv.Is w w0.heap.size bp vl vu l0 u) (hbp : w0.heap.size ≤ bp) (hb : Below w0.heap.size w0 w) (e : u = List.replicate l0.length false) :
    TP w0 ((w.alloc (.cells #[.bool false, .bool false, .bool false, .bool false, .bool false, .bool false, .bool false, .bool false, .bool false, .bool false, .bool false, .bool false, .bool false, .bool false, .bool false, .bool false] 81)).alloc (.cells #[.bool false, .bool false, .bool false, .bool false, .bool false, .bool false, .bool false, .bool false, .bool false, .bool false, .bool false, .bool false, .bool false, .bool false, .bool false, .bool false] 81)) bp w.heap.size (w.heap.size + 1) vl vu l0 l0 u u (sickK l0 0) none 0 [] := by
  show TP w0 ((w.alloc (.cells (List.replicate 16 (.bool false)).toArray 81)).alloc (.cells (List.replicate 16 (.bool false)).toArray 81)) bp w.heap.size (w.heap.size + 1) vl vu l0 l0 u u (sickK l0 0) none 0 []
  have h1 : Below w.heap.size w ((w.alloc (.cells (List.replicate 16 (.bool false)).toArray 81)).alloc (.cells (List.replicate 16 (.bool false)).toArray 81)) := ((Below.refl _ _).alloc (Nat.le_refl _) _).alloc (by simp) _
  have hz := hb.size
  refine ⟨hp.below h1, ?_, ?_, rfl, World.ownsRow_nil _ _ _ _, by rw [e]; simp, by rw [sickK_len _ (by omega)], hz, by omega, by omega, hbp, hb.trans (h1.mono hz)⟩
  · rw [e, padT_none]
    exact (Blk.new w _ _).alloc _
  · rw [sickK_zero, padT_none]
    exact Blk.new1 w _ _ _
end
end Go.Proofs.Yticmfflnenoplab
