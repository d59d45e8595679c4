/- Devices: the two pools side by side, in memory. No statement is proved here. -/
import Derived.Test.YticmfflnenoplaaDvL
import Derived.Test.YticmfflnenoplaaLight
import Derived.Deep.CutBlock
namespace Go.Proofs.Yticmfflnenoplaa
open Go.RowKit Dv Da
structure DS (w0 w : World) (bp bm : Nat) (vl vu vm : Value) (l : List Dev) (u : List Bool) (l2 : List Dev) (u2 : List Bool) : Prop where
  p : Dv.Is w w0.heap.size bp vl vu l u
  m : RIs w w0.heap.size bm vm l2 u2
  apart : ∀ g, vl.ownBlock = some g → vm.ownBlock ≠ some g
  hbp : w0.heap.size ≤ bp
  hbm : w0.heap.size ≤ bm
  bel : Below w0.heap.size w0 w
section
variable {w0 w w' : World} {bp bm : Nat} {vl vu vm : Value} {l l' l2 l2' : List Dev} {u u' u2 u2' : List Bool}
theorem DS.below (h : DS w0 w bp bm vl vu vm l u l2 u2) (hb : Below w.heap.size w w') : DS w0 w' bp bm vl vu vm l u l2 u2 :=
  ⟨h.p.below hb, h.m.below hb, h.apart, h.hbp, h.hbm, h.bel.trans (hb.mono h.bel.size)⟩
theorem DS.onU (h : DS w0 w bp bm vl vu vm l u l2 u2) (hp : Dv.Is w' w0.heap.size bp vl vu l u') (hk : Kept (fun q => vu.ownBlock = some q) w w') : DS w0 w' bp bm vl vu vm l u' l2 u2 :=
  ⟨hp, h.m.kept hk (fun hh => own_blk_ne h.p.ru h.m.blk (by decide) hh) (fun q hq hh => dv_own_ne h.m.rl.row h.p.ru (by decide) hq hh), h.apart, h.hbp, h.hbm, h.bel.trans (hk.below h.bel.size fun q hlt hq => by have := (h.p.ru.lt q hq).1; omega)⟩
theorem DS.onL (h : DS w0 w bp bm vl vu vm l u l2 u2) (hp : Dv.Is w' w0.heap.size bp vl vu l' u) (hk : Kept (fun q => vl.ownBlock = some q) w w') : DS w0 w' bp bm vl vu vm l' u l2 u2 :=
  ⟨hp, h.m.kept hk (fun hh => own_blk_ne h.p.rl.row h.m.blk (by decide) hh) (fun q hq hh => h.apart q hh hq), h.apart, h.hbp, h.hbm, h.bel.trans (hk.below h.bel.size fun q hlt hq => by have := (h.p.rl.row.lt q hq).1; omega)⟩
theorem DS.onM (h : DS w0 w bp bm vl vu vm l u l2 u2) (hm : RIs w' w0.heap.size bm vm l2 u2') (hk : Kept (fun q => q = bm) w w') : DS w0 w' bp bm vl vu vm l u l2 u2' :=
  ⟨h.p.kept hk (fun hh => Blk.ne_ h.p.blk h.m.blk (by decide) hh) (fun q hq hh => by subst hh; exact own_blk_ne h.p.rl.row h.m.blk (by decide) hq) (fun q hq hh => by subst hh; exact own_blk_ne h.p.ru h.m.blk (by decide) hq), hm, h.apart, h.hbp, h.hbm, h.bel.trans (hk.below h.bel.size fun q hlt hq => by have := h.hbm; omega)⟩
theorem DS.onR (h : DS w0 w bp bm vl vu vm l u l2 u2) (hm : RIs w' w0.heap.size bm vm l2' u2) (hk : Kept (fun q => vm.ownBlock = some q) w w') : DS w0 w' bp bm vl vu vm l u l2' u2 :=
  ⟨h.p.kept hk (fun hh => own_blk_ne h.m.rl.row h.p.blk (by decide) hh) (fun q hq hh => h.apart q hq hh) (fun q hq hh => dv_own_ne h.p.ru h.m.rl.row (by decide) hq hh), hm, h.apart, h.hbp, h.hbm, h.bel.trans (hk.below h.bel.size fun q hlt hq => by have := (h.m.rl.row.lt q hq).1; omega)⟩
theorem DS.drew (h : DS w0 w bp bm vl vu vm l u l2 u2) : DS w0 w.drew bp bm vl vu vm l u l2 u2 :=
  ⟨⟨h.p.blk, ⟨h.p.rl.row, h.p.rl.many, h.p.rl.fine, h.p.rl.size⟩, h.p.ru, h.p.len⟩, RIs.drewN h.m 1, h.apart, h.hbp, h.hbm, h.bel.drew⟩
/-- The act's own block stands apart from all that is written. -/
theorem DS.act {g : Nat} {cs : Array Value} (h : DS w0 w bp bm vl vu vm l u l2 u2) (ka : Blk w g 36 cs) : vl.ownBlock ≠ some g ∧ vu.ownBlock ≠ some g ∧ vm.ownBlock ≠ some g ∧ g ≠ bp ∧ g ≠ bm :=
  ⟨own_blk_ne h.p.rl.row ka (by decide), own_blk_ne h.p.ru ka (by decide), own_blk_ne h.m.rl.row ka (by decide), Blk.ne_ ka h.p.blk (by decide), Blk.ne_ ka h.m.blk (by decide)⟩
/-- The reference's own device, told sick or well. -/
theorem rsick {g c : Nat} (h : RIs w w0.heap.size bm (.slice (some ⟨g, 0, none⟩) l2.length c) l2 u2) {k : Nat} (hk : k < l2.length) (b : Bool) :
    RIs (w.setCell ⟨g, k * 3 + 2, none⟩ (.bool b)) w0.heap.size bm (.slice (some ⟨g, 0, none⟩) l2.length c) (sickL l2 k b) u2 ∧ Kept (fun q => (Value.slice (some ⟨g, 0, none⟩) l2.length c).ownBlock = some q) w (w.setCell ⟨g, k * 3 + 2, none⟩ (.bool b)) := by
  have hkp : Kept (fun q => (Value.slice (some ⟨g, 0, none⟩) l2.length c).ownBlock = some q) w (w.setCell ⟨g, k * 3 + 2, none⟩ (.bool b)) := Kept.setCell (S := fun q => (Value.slice (some ⟨g, 0, none⟩) l2.length c).ownBlock = some q) (p := ⟨g, k * 3 + 2, none⟩) (Kept.refl _ w) (.inl (by simp [Value.ownBlock])) _
  refine ⟨⟨h.blk.kept hkp (fun hh => own_blk_ne h.rl.row h.blk (by decide) hh), ?_, by rw [sickL_len]; exact h.len⟩, hkp⟩
  rw [sickL_ok hk]
  simpa using sick_row h.rl hk b
end
theorem RSlice.up {α : Type} {w : World} {B B' C : Nat} {R : List Value → α → Prop} {cs : List Value} {l : List α} (h : RSlice w B C R cs l) (hB : B ≤ B') : RSlice w B' C R cs l := by
  obtain ⟨A, cap, h1, h2, h3, h4⟩ := h
  refine ⟨A, cap, h1, h2, h3, ?_⟩
  rcases h4 with h4 | ⟨b, off, hA, hb, h4⟩
  · exact .inl h4
  · exact .inr ⟨b, off, hA, by omega, h4⟩
theorem RSlice.below_up {α : Type} {w w' : World} {C : Nat} {R : List Value → α → Prop} {cs : List Value} {l : List α} (h : RSlice w w.heap.size C R cs l) (hb : Below w.heap.size w w') : RSlice w' w'.heap.size C R cs l := (h.below hb).up hb.size
theorem Dv.Is.base {w : World} {b b' bp : Nat} {vl vu : Value} {l : List Dev} {u : List Bool} (h : Dv.Is w b bp vl vu l u) (hb : b' ≤ b) : Dv.Is w b' bp vl vu l u := ⟨h.blk, ⟨dv_base h.rl.row hb, h.rl.many, h.rl.fine, h.rl.size⟩, dv_base h.ru hb, h.len⟩
theorem Dv.RIs.base {w : World} {b b' bp : Nat} {vl : Value} {l : List Dev} {u : List Bool} (h : RIs w b bp vl l u) (hb : b' ≤ b) : RIs w b' bp vl l u := ⟨h.blk, ⟨dv_base h.rl.row hb, h.rl.many, h.rl.fine, h.rl.size⟩, h.len⟩
theorem devF_pos : ∀ l : List Dev, devF l = 0 ∨ 1 ≤ devF l
  | [] => .inl rfl
  | d :: l => by
    simp only [devF]
    split
    · exact .inr (by omega)
    · split
      · exact .inr (by omega)
      · exact devF_pos l
theorem newF_pos {l : List Dev} (h : newF l ≠ 0) : 1 ≤ newF l := by
  unfold newF at *
  split
  · omega
  · rename_i hn
    rw [if_neg hn] at h
    rcases devF_pos l with h' | h'
    · exact absurd h' h
    · exact h'
theorem DS.start {w w2 w3 w4 : World} {bp bm : Nat} {vl vu vm : Value} {l : List Dev} {u : List Bool} (hb2 : Below w.heap.size w w2) (hp : Dv.Is w3 w2.heap.size bp vl vu l u) (h1 : w2.heap.size ≤ bp) (hb3 : Below w2.heap.size w2 w3) (hm : RIs w4 w3.heap.size bm vm l u) (h2 : w3.heap.size ≤ bm) (hb4 : Below w3.heap.size w3 w4) :
    DS w w4 bp bm vl vu vm l u l u := by
  have hz2 := hb2.size
  have hz3 := hb3.size
  refine ⟨(hp.base hz2).below hb4, hm.base (by omega), fun g hg hh => ?_, by omega, by omega, (hb2.trans (hb3.mono hz2)).trans (hb4.mono (by omega))⟩
  have h3 := (hp.rl.row.lt g hg).2
  have h4 := (hm.rl.row.lt g hh).1
  omega
theorem dv_slice_val {α : Type} {w : World} {B C : Nat} {R : List Value → α → Prop} {v : Value} {l : List α} (h : RSlice w B C R [v] l) : ∃ A n c, v = .slice A n c := by
  obtain ⟨A, cap, hv, _⟩ := h.form
  exact ⟨A, _, cap, by simpa using hv⟩
theorem dv_pod_val {w : World} {B : Nat} {p0 p1 p2 : Value} {p : Pod} (h : RPod w B [p0, p1, p2] p) : ∃ A n c, p0 = .string p.name ∧ p1 = .int .i64 p.prio ∧ p2 = .slice A n c := by
  obtain ⟨cv, he, _, _, hs⟩ := h
  obtain ⟨A, n, c, rfl⟩ := dv_slice_val hs
  simp only [List.cons.injEq, and_true] at he
  exact ⟨A, n, c, he⟩
theorem takeL_bound {k : ByteArray} {many : Int} {on : Nat} {l : List Dev} {u : List Bool} (hl : l.length ≤ 16) : (∀ x ∈ takeL k many on l u, -9223372036854775808 ≤ x ∧ x ≤ 9223372036854775807) ∧ (takeL k many on l u).length ≤ 1000000 := by
  unfold takeL
  refine ⟨fun x hx => ?_, ?_⟩
  · have := chosen_bound ((srt_perm _).mem_iff.1 hx)
    omega
  · rw [srt_len]
    unfold chosen
    rw [List.length_map, List.length_take]
    have := both_len k on l u
    omega
theorem rs_nil (w : World) : RS w (fun _ => False) 1 RInt [.slice none 0 0] [] := ⟨none, 0, rfl, by simp, by simp [maxLen], .inl rfl⟩
theorem takeF_nn {k : ByteArray} {many : Int} {on : Nat} {l : List Dev} {u : List Bool} : 0 ≤ takeF k many on l u := by
  unfold takeF
  split
  · omega
  · split <;> omega
theorem claimF_nn (u : List Bool) (g : Bool) : ∀ (l seen : List Int), 0 ≤ claimG u g seen l
  | [], _ => by simp [claimG]
  | x :: l, seen => by
    simp only [claimG]
    split
    · exact claimF_nn u g l _
    · unfold claimAt
      split
      · omega
      · cases g
        · simp only [Bool.false_eq_true, if_false]
          split <;> omega
        · simp only [if_true]
          split <;> omega
theorem claimF_pos (u : List Bool) (g : Bool) (l : List Int) : 0 ≤ claimF u g l := claimF_nn u g l []
theorem isF_01 (n : Nat) (x : Int) : (isF n x = 1 ∧ (x < 0 ∨ (n : Int) ≤ x)) ∨ (isF n x = 0 ∧ 0 ≤ x ∧ x < n) := by
  unfold isF
  split
  · rename_i h; exact .inl ⟨rfl, h⟩
  · exact .inr ⟨rfl, by omega, by omega⟩
theorem dvEqA4 (a b c d : Int) (w : World) : (Op.equalIn 10000 75 (.agg #[.int .i64 a, .int .i64 b, .int .i64 c, .int .i64 d]) (.agg #[.int .i64 a, .int .i64 b, .int .i64 c, .int .i64 d])).run Try.prog w = .ok true w := by
  rw [show (10000 : Nat) = 9998 + 1 + 1 from rfl, Op.equalIn]
  simp only [Sem.run_bind, run_underlying Try.underlying75, Result.andThen_ok]
  simp [go_sem, Try.sizeOf3]
  simp only [show List.range' 0 4 = [0, 1, 2, 3] from rfl, List.forIn_cons, List.forIn_nil]
  simp [go_sem, Try.isAgg3]
theorem dvEqD (s : ByteArray) (n : Int) (b : Bool) (w : World) : (Op.equalIn 10000 131 (.agg #[.string s, .int .i64 n, .bool b]) (.agg #[.string s, .int .i64 n, .bool b])).run Try.prog w = .ok true w := by
  rw [show (10000 : Nat) = 9998 + 1 + 1 from rfl, Op.equalIn]
  simp only [Sem.run_bind, run_underlying Try.underlying131, Result.andThen_ok]
  simp [go_sem, Try.sizeOf3, Try.sizeOf9, Try.sizeOf4, Try.isAgg3, Try.isAgg9, Try.isAgg4]
/-- Between two acts. -/
def DSK (w0 w : World) (bp bm : Nat) (vl vu vm : Value) (n : Nat) : Prop := ∃ l u, l.length = n ∧ DS w0 w bp bm vl vu vm l u l u
end Go.Proofs.Yticmfflnenoplaa
