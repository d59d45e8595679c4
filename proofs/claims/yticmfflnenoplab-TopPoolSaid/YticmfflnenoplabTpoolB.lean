/- TopPool: the pool, who has what, who is sick, the last that was taken, in memory. No statement is proved here. -/
import Derived.Test.YticmfflnenoplabTpoolA
namespace Go.Proofs.Yticmfflnenoplab
open Go.RowKit Dv Da Mk
structure TP (w0 w : World) (bp b9 b10 : Nat) (vl vu : Value) (l0 lp : List Dev) (u m sk : List Bool) (A : Option Addr) (c : Nat) (last : List Int) : Prop where
  p : Dv.Is w w0.heap.size bp vl vu lp u
  mine : Blk w b9 81 (padT m).toArray
  sick : Blk w b10 81 (padT sk).toArray
  kinds : lp.map Dev.kind = l0.map Dev.kind
  row : w.ownsRow w0.heap.size 3 1 (.slice A last.length c) last.length (dInts last)
  hm : m.length = lp.length
  hs : sk.length = lp.length
  h9 : w0.heap.size ≤ b9
  h10 : w0.heap.size ≤ b10
  ne : b9 ≠ b10
  hbp : w0.heap.size ≤ bp
  bel : Below w0.heap.size w0 w
section
variable {w0 w w' : World} {bp b9 b10 c c' : Nat} {vl vu : Value} {l0 lp lp' : List Dev} {u u' m sk : List Bool} {A A' : Option Addr} {last last' : List Int}
theorem TP.below (h : TP w0 w bp b9 b10 vl vu l0 lp u m sk A c last) (hb : Below w.heap.size w w') : TP w0 w' bp b9 b10 vl vu l0 lp u m sk A c last :=
  ⟨h.p.below hb, h.mine.below hb h.mine.lt, h.sick.below hb h.sick.lt, h.kinds, own_below h.row hb, h.hm, h.hs, h.h9, h.h10, h.ne, h.hbp, h.bel.trans (hb.mono h.bel.size)⟩
theorem TP.drewN (h : TP w0 w bp b9 b10 vl vu l0 lp u m sk A c last) (n : Nat) : TP w0 (w.drewN n) bp b9 b10 vl vu l0 lp u m sk A c last :=
  ⟨⟨h.p.blk, ⟨h.p.rl.row, h.p.rl.many, h.p.rl.fine, h.p.rl.size⟩, h.p.ru, h.p.len⟩, h.mine, h.sick, h.kinds, h.row, h.hm, h.hs, h.h9, h.h10, h.ne, h.hbp, ⟨h.bel.os, h.bel.tape, h.bel.output, h.bel.size, h.bel.block⟩⟩
theorem TP.onU (h : TP w0 w bp b9 b10 vl vu l0 lp u m sk A c last) (hp : Dv.Is w' w0.heap.size bp vl vu lp u') (hk : Kept (fun q => vu.ownBlock = some q) w w') : TP w0 w' bp b9 b10 vl vu l0 lp u' m sk A c last :=
  ⟨hp, h.mine.kept hk (fun hh => own_blk_ne h.p.ru h.mine (by decide) hh), h.sick.kept hk (fun hh => own_blk_ne h.p.ru h.sick (by decide) hh), h.kinds, own_kept h.row hk (fun q hq hh => dv_own_ne h.row h.p.ru (by decide) hq hh), h.hm, h.hs, h.h9, h.h10, h.ne, h.hbp, h.bel.trans (hk.below h.bel.size fun q hlt hq => by have := (h.p.ru.lt q hq).1; omega)⟩
theorem TP.onL (h : TP w0 w bp b9 b10 vl vu l0 lp u m sk A c last) (hp : Dv.Is w' w0.heap.size bp vl vu lp' u) (hl : lp'.length = lp.length) (hkd : lp'.map Dev.kind = lp.map Dev.kind) (hk : Kept (fun q => vl.ownBlock = some q) w w') : TP w0 w' bp b9 b10 vl vu l0 lp' u m sk A c last :=
  ⟨hp, h.mine.kept hk (fun hh => own_blk_ne h.p.rl.row h.mine (by decide) hh), h.sick.kept hk (fun hh => own_blk_ne h.p.rl.row h.sick (by decide) hh), hkd.trans h.kinds, own_kept h.row hk (fun q hq hh => dv_own_ne h.row h.p.rl.row (by decide) hq hh), h.hm.trans hl.symm, h.hs.trans hl.symm, h.h9, h.h10, h.ne, h.hbp, h.bel.trans (hk.below h.bel.size fun q hlt hq => by have := (h.p.rl.row.lt q hq).1; omega)⟩
theorem TP.setMine (h : TP w0 w bp b9 b10 vl vu l0 lp u m sk A c last) {i : Nat} (hi : i < lp.length) (b : Bool) : TP w0 (w.setCell ⟨b9, i, none⟩ (.bool b)) bp b9 b10 vl vu l0 lp u (m.set i b) sk A c last := by
  have hk : Kept (fun q => q = b9) w (w.setCell ⟨b9, i, none⟩ (.bool b)) := (Kept.refl _ _).set1 _
  refine ⟨h.p.kept hk (fun hh => Blk.ne_ h.p.blk h.mine (by decide) hh) (fun q hq hh => by subst hh; exact own_blk_ne h.p.rl.row h.mine (by decide) hq) (fun q hq hh => by subst hh; exact own_blk_ne h.p.ru h.mine (by decide) hq), ?_, h.sick.kept hk (Ne.symm h.ne), h.kinds, own_kept h.row hk (fun q hq hh => by subst hh; exact own_blk_ne h.row h.mine (by decide) hq), by simpa using h.hm, h.hs, h.h9, h.h10, h.ne, h.hbp, h.bel.trans (hk.below h.bel.size fun q hlt hq => by have := h.h9; omega)⟩
  exact (h.mine.set_ i _).cast (padT_set m i (by rw [h.hm]; exact hi) b)
theorem TP.setSick (h : TP w0 w bp b9 b10 vl vu l0 lp u m sk A c last) {i : Nat} (hi : i < lp.length) (b : Bool) : TP w0 (w.setCell ⟨b10, i, none⟩ (.bool b)) bp b9 b10 vl vu l0 lp u m (sk.set i b) A c last := by
  have hk : Kept (fun q => q = b10) w (w.setCell ⟨b10, i, none⟩ (.bool b)) := (Kept.refl _ _).set1 _
  refine ⟨h.p.kept hk (fun hh => Blk.ne_ h.p.blk h.sick (by decide) hh) (fun q hq hh => by subst hh; exact own_blk_ne h.p.rl.row h.sick (by decide) hq) (fun q hq hh => by subst hh; exact own_blk_ne h.p.ru h.sick (by decide) hq), h.mine.kept hk h.ne, ?_, h.kinds, own_kept h.row hk (fun q hq hh => by subst hh; exact own_blk_ne h.row h.sick (by decide) hq), h.hm, by simpa using h.hs, h.h9, h.h10, h.ne, h.hbp, h.bel.trans (hk.below h.bel.size fun q hlt hq => by have := h.h10; omega)⟩
  exact (h.sick.set_ i _).cast (padT_set sk i (by rw [h.hs]; exact hi) b)
theorem TP.newRow (h : TP w0 w bp b9 b10 vl vu l0 lp u m sk A c last) (hr : w.ownsRow w0.heap.size 3 1 (.slice A' last'.length c') last'.length (dInts last')) : TP w0 w bp b9 b10 vl vu l0 lp u m sk A' c' last' :=
  ⟨h.p, h.mine, h.sick, h.kinds, hr, h.hm, h.hs, h.h9, h.h10, h.ne, h.hbp, h.bel⟩
theorem TP.mineAt (h : TP w0 w bp b9 b10 vl vu l0 lp u m sk A c last) {i : Nat} (hi : i < lp.length) : w.cell? ⟨b9, i, none⟩ = some (.bool (m[i]'(by rw [h.hm]; exact hi))) := by
  rw [h.mine.cell, padT_at _ _ (by have := h.p.rl.many; omega), getD_at]
theorem TP.sickAt (h : TP w0 w bp b9 b10 vl vu l0 lp u m sk A c last) {i : Nat} (hi : i < lp.length) : w.cell? ⟨b10, i, none⟩ = some (.bool (sk[i]'(by rw [h.hs]; exact hi))) := by
  rw [h.sick.cell, padT_at _ _ (by have := h.p.rl.many; omega), getD_at]
theorem TP.kindAt (h : TP w0 w bp b9 b10 vl vu l0 lp u m sk A c last) {i : Nat} (hi : i < lp.length) : ∃ hi0 : i < l0.length, lp[i].kind = l0[i].kind := by
  have hl := congrArg List.length h.kinds
  simp only [List.length_map] at hl
  have hk := congrArg (fun l => l[i]?) h.kinds
  simp only [List.getElem?_map, List.getElem?_eq_getElem hi, List.getElem?_eq_getElem (show i < l0.length by omega), Option.map_some, Option.some.injEq] at hk
  exact ⟨by omega, hk⟩
end
/-- The last taken ones are somebody's. -/
def Good (n : Nat) (u : List Bool) (last : List Int) : Prop := ∀ x ∈ last, ∃ q : Nat, x = q ∧ q < n ∧ u.getD q false = true
theorem claim_good {n : Nat} {u : List Bool} {last : List Int} (h : Good n u last) (hu : u.length = n) : claimF u true last = 0 := by
  refine claim_ok u true last (fun j hj => ?_)
  obtain ⟨q, hq, hqn, hqu⟩ := h last[j] (List.getElem_mem hj)
  have hqu2 : q < u.length := by omega
  rw [hq, give_in hqu2, if_pos (by rw [← getD_at hqu2]; exact hqu)]
theorem good_mark {n : Nat} {u : List Bool} {xs : List Int} (hu : u.length = n) (h0 : ∀ x ∈ xs, ∃ q : Nat, x = q ∧ q < n) : Good n (markU u true xs) xs := by
  intro x hx
  obtain ⟨q, rfl, hq⟩ := h0 x hx
  refine ⟨q, rfl, hq, ?_⟩
  have hqu : q < u.length := by omega
  rw [getD_at (by rw [markU_len]; exact hqu), markU_atI true xs u q (fun y hy => by obtain ⟨q', rfl, _⟩ := h0 y hy; omega) hqu, if_pos hx]
theorem good_nil (n : Nat) (u : List Bool) : Good n u [] := fun _ h => by cases h
theorem good_drop {n : Nat} {u : List Bool} {l : List Int} (h : Good n u l) {k : Nat} (hk : k < l.length) : ∃ q : Nat, l[k] = q ∧ q < n ∧ u.getD q false = true := h l[k] (List.getElem_mem hk)
end Go.Proofs.Yticmfflnenoplab
