/- Devices: Claim and Give: their walks. No statement is proved here. -/
import Derived.Test.YticmfflnenoplabDvB
import Derived.Test.YticmfflnenoplabShelfB
namespace Go.Proofs.Yticmfflnenoplab
open Go.RowKit Dv
namespace Dv
/-- What is wrong with a number, behind those seen. -/
def claimAt (u : List Bool) (give : Bool) (seen : List Int) (x : Int) : Int :=
  if x < 0 ∨ (u.length : Int) ≤ x then 1 else if give then (if u.getD x.toNat false then 0 else 6) else if u.getD x.toNat false || seen.contains x then 5 else 0
def claimG (u : List Bool) (give : Bool) : List Int → List Int → Int
  | _, [] => 0
  | seen, x :: l => if claimAt u give seen x = 0 then claimG u give (seen ++ [x]) l else claimAt u give seen x
def claimF (u : List Bool) (give : Bool) (l : List Int) : Int := claimG u give [] l
def markU (u : List Bool) (b : Bool) (l : List Int) : List Bool := l.foldl (fun u x => u.set x.toNat b) u
def claimU (u : List Bool) (give : Bool) (l : List Int) : List Bool := if claimF u give l = 0 then markU u (!give) l else u
theorem claim_skip (u : List Bool) (give : Bool) (l : List Int) (k : Nat) (hk : k ≤ l.length) (h : ∀ j (hj : j < l.length), j < k → claimAt u give (l.take j) l[j] = 0) : claimF u give l = claimG u give (l.take k) (l.drop k) := by
  induction k with
  | zero => rfl
  | succ k ih =>
    rw [ih (by omega) (fun j hj hjk => h j hj (by omega)), List.drop_eq_getElem_cons (by omega : k < l.length), claimG, if_pos (h k (by omega) (by omega)), ← List.take_succ_eq_append_getElem]
theorem claim_hit (u : List Bool) (give : Bool) (l : List Int) (k : Nat) (hk : k < l.length) (h : ∀ j (hj : j < l.length), j < k → claimAt u give (l.take j) l[j] = 0) {f : Int} (hf : claimAt u give (l.take k) l[k] = f) (h0 : f ≠ 0) : claimF u give l = f := by
  rw [claim_skip u give l k (by omega) h, List.drop_eq_getElem_cons hk, claimG, if_neg (by rw [hf]; exact h0), hf]
theorem claim_ok (u : List Bool) (give : Bool) (l : List Int) (h : ∀ j (hj : j < l.length), claimAt u give (l.take j) l[j] = 0) : claimF u give l = 0 := by
  rw [claim_skip u give l l.length (Nat.le_refl _) (fun j hj _ => h j hj), List.drop_length]
  rfl
theorem claim_bound {u : List Bool} {give : Bool} {seen : List Int} {x : Int} (h : claimAt u give seen x = 0) : 0 ≤ x ∧ x < u.length := by
  unfold claimAt at h
  split at h
  · cases h
  · omega
theorem claim_out {u : List Bool} {give : Bool} {seen : List Int} {x : Int} (h : x < 0 ∨ (u.length : Int) ≤ x) : claimAt u give seen x = 1 := by
  unfold claimAt
  rw [if_pos h]
theorem claim_in {u : List Bool} {seen : List Int} {n : Nat} (h : n < u.length) : claimAt u false seen n = if u[n] || seen.contains (n : Int) then 5 else 0 := by
  unfold claimAt
  rw [if_neg (by omega)]
  simp [List.getD, h]
theorem give_in {u : List Bool} {seen : List Int} {n : Nat} (h : n < u.length) : claimAt u true seen n = if u[n] then 0 else 6 := by
  unfold claimAt
  rw [if_neg (by omega)]
  simp [List.getD, h]
theorem markU_succ (u : List Bool) (b : Bool) (l : List Int) (k : Nat) (hk : k < l.length) : markU u b (l.take (k + 1)) = (markU u b (l.take k)).set l[k].toNat b := by
  unfold markU
  rw [List.take_succ_eq_append_getElem hk, List.foldl_append]
  rfl
theorem markU_len (u : List Bool) (b : Bool) (l : List Int) : (markU u b l).length = u.length := by
  unfold markU
  induction l generalizing u with
  | nil => rfl
  | cons x l ih => rw [List.foldl_cons, ih]; simp
theorem claimU_len (u : List Bool) (give : Bool) (l : List Int) : (claimU u give l).length = u.length := by
  unfold claimU
  split
  · rw [markU_len]
  · rfl
end Dv
/-- Numbers that are read: the cells. -/
theorem rs_int {w : World} {S : Nat → Prop} {b off n cap : Nat} {l : List Int} (h : RS w S 1 RInt [.slice (some ⟨b, off, none⟩) n cap] l) {k : Nat} (hk : k < l.length) : w.cell? ⟨b, off + k, none⟩ = some (.int .i64 l[k]) ∧ -9223372036854775808 ≤ l[k] ∧ l[k] ≤ 9223372036854775807 := by
  obtain ⟨_, cs', h1, h2, h3, h4⟩ := h.at_ hk
  have := h2 0 (.int .i64 l[k]) (by rw [h3]; rfl)
  rw [Nat.mul_one, Nat.add_zero] at this
  exact ⟨this, h4⟩
def ClaimP (base bp : Nat) (vl vu : Value) (l : List Dev) (u : List Bool) (give : Bool) (xs : List Int) (w : World) (e : Ending) (w' : World) : Prop :=
  e = .returned (errV (claimF u give xs)) ∧ Dv.Is w' base bp vl vu l (claimU u give xs) ∧ Kept (fun k => vu.ownBlock = some k) w w'
theorem ClaimP.bad {base bp : Nat} {vl vu : Value} {l : List Dev} {u : List Bool} {give : Bool} {xs : List Int} {w : World} (h : Dv.Is w base bp vl vu l u) {f : Int} (hf : claimF u give xs = f) (h0 : f ≠ 0) {v : Value} (hv : v = errV f) : ClaimP base bp vl vu l u give xs w (.returned v) w :=
  ⟨by rw [hf, hv], by unfold claimU; rw [if_neg (by rw [hf]; exact h0)]; exact h, Kept.refl _ _⟩
/-- The numbers are marked, one by one. -/
structure Mkd (base bp : Nat) (vl vu : Value) (l : List Dev) (u : List Bool) (w wi : World) : Prop where
  is : Dv.Is wi base bp vl vu l u
  kept : Kept (fun k => vu.ownBlock = some k) w wi
theorem Mkd.set_ {base bp g c : Nat} {vl : Value} {l : List Dev} {u : List Bool} {w wi : World} (h : Mkd base bp vl (.slice (some ⟨g, 0, none⟩) l.length c) l u w wi) (i : Nat) (b : Bool) :
    Mkd base bp vl (.slice (some ⟨g, 0, none⟩) l.length c) l (u.set i b) w (wi.setCell ⟨g, i, none⟩ (.bool b)) := by
  have hk : Kept (fun k => (Value.slice (some ⟨g, 0, none⟩) l.length c).ownBlock = some k) wi (wi.setCell ⟨g, i, none⟩ (.bool b)) := Kept.setCell (S := fun k => (Value.slice (some ⟨g, 0, none⟩) l.length c).ownBlock = some k) (p := ⟨g, i, none⟩) (Kept.refl _ wi) (.inl (by simp [Value.ownBlock])) _
  refine ⟨⟨h.is.blk.kept hk (fun hh => own_blk_ne h.is.ru h.is.blk (by decide) hh), h.is.rl.kept hk (fun q hq hh => dv_own_ne h.is.rl.row h.is.ru (by decide) hq hh), ?_, by simpa using h.is.len⟩, h.kept.trans hk⟩
  have := (h.is.ru.stored i (.bool b)).1
  rwa [boolsV_set] at this
section
attribute [local irreducible] claimAt claimG claimF markU claimU
set_option maxRecDepth 100000 in
set_option maxHeartbeats 2000000 in
theorem Give_any (base bp : Nat) (vl vu v : Value) (l : List Dev) (u : List Bool) (xs : List Int) (S : Nat → Prop) (w : World) (h : Dv.Is w base bp vl vu l u) (hx : RS w S 1 RInt [v] xs) (hS : ∀ b, S b → vu.ownBlock ≠ some b ∧ b < w.heap.size) :
    Calls Try.prog 28 #[.pointer (some ⟨bp, 0, none⟩), v] w (ClaimP base bp vl vu l u true xs w) := by
  have hc := h.blk.cells
  have hbl := h.blk.lt
  have HIS := Lib.hid h
  obtain ⟨A, c, rfl, q1, q2⟩ := h.rl.form
  obtain ⟨A2, c2, rfl, q3, q4, _⟩ := own_form h.ru
  obtain ⟨A3, c3, hv, q5, q6, hA⟩ := hx.form
  obtain rfl : v = _ := by simpa using hv
  have hn := h.rl.many
  have HL := Lib.hid h.len
  have HA := Lib.hid hA
  have HX := Lib.hid hx
  have HS := Lib.hid hS
  unfold maxLen at q2 q4 q6
  clear h hv hA hx hS
  go_enter Try.func28, Try.ntmps28
  go_wp2_with fail
  go_loop [11] (fun i => ∃ k : Nat, i = .int .i64 k ∧ k ≤ xs.length ∧ Hid (∀ j (hj : j < xs.length), j < k → claimAt u true (xs.take j) xs[j] = 0)) (fun i => xs.length - (intOf i).toNat)
  case atStart => exact ⟨0, rfl, by omega, Lib.hid (fun j hj h => by omega)⟩
  case round =>
    obtain ⟨k, rfl, hk, HN⟩ := hrel
    by_cases hlt : k < xs.length
    · obtain ⟨b, off, rfl, hSb⟩ := HA.out k hlt
      obtain ⟨g0, g1, g2⟩ := rs_int HX.out hlt
      have HH := Lib.hid (fun f => claim_hit u true xs k hlt HN.out (f := f))
      have HS2 : Hid (claimAt u true (xs.take k) xs[k] = 0 → ∀ j (hj : j < xs.length), j < k + 1 → claimAt u true (xs.take j) xs[j] = 0) := Lib.hid (by
        intro a j hj hjk
        rcases (show j < k ∨ j = k by omega) with h | h
        · exact HN.out j hj h
        · subst h; exact a)
      have HIN := Lib.hid (fun n (hn : n < u.length) => give_in (seen := xs.take k) hn)
      have HOUT := Lib.hid (claim_out (u := u) (give := true) (seen := xs.take k) (x := xs[k]))
      clear HN
      generalize xs[k] = x at *
      by_cases h1 : x < 0
      · have HF := Lib.hid (HH.out 1 (HOUT.out (.inl h1)) (by omega))
        clear HH HS2 HOUT HIN
        go_wp2_with fail
        go_ret
        exact ClaimP.bad HIS.out HF.out (by omega) (by rw [errV_pos 1 (by omega)]; rfl)
      · by_cases h2 : (l.length : Int) ≤ x
        · have HF := Lib.hid (HH.out 1 (HOUT.out (.inr (by have := HL.out; omega))) (by omega))
          clear HH HS2 HOUT HIN
          go_wp2_with fail
          go_ret
          exact ClaimP.bad HIS.out HF.out (by omega) (by rw [errV_pos 1 (by omega)]; rfl)
        · obtain ⟨n, rfl⟩ : ∃ n : Nat, x = n := ⟨x.toNat, by omega⟩
          obtain ⟨gu, rfl, hgu, cu⟩ := used_cell HIS.out.ru (i := n) (by have := HL.out; omega) HL.out
          have HCI := Lib.hid (HIN.out n (by have := HL.out; omega))
          clear HOUT HIN
          generalize u[n]'(by have := HL.out; omega) = bu at *
          cases bu
          · have HF := Lib.hid (HH.out 6 (by rw [HCI.out]; rfl) (by omega))
            clear HH HS2 HCI
            go_wp2_with fail
            go_ret
            exact ClaimP.bad HIS.out HF.out (by omega) (by rw [errV_pos 6 (by omega)]; rfl)
          · have HF := Lib.hid (HS2.out (by rw [HCI.out]; rfl))
            clear HH HS2 HCI
            go_wp2_with fail
            go_round
            case rel => exact ⟨k + 1, by go_num, by omega, HF⟩
            case measure => simp [intOf]; omega
    · obtain rfl : k = xs.length := by omega
      have HF := Lib.hid (claim_ok u true xs (fun j hj => HN.out j hj hj))
      have HB : Hid (∀ j (hj : j < xs.length), 0 ≤ xs[j] ∧ xs[j] < u.length) := Lib.hid (fun j hj => claim_bound (HN.out j hj hj))
      have HM0 : Hid (markU u false (xs.take 0) = u) := Lib.hid (by unfold markU; rfl)
      clear HN
      go_wp2_with fail
      clear hc
      go_loopw [39] (fun i wi => ∃ k : Nat, i = .int .i64 k ∧ k ≤ xs.length ∧ Hid (Mkd base bp (.slice A l.length c) (.slice A2 l.length c2) l (markU u false (xs.take k)) w wi)) (fun i _ => xs.length - (intOf i).toNat)
      case atStart => exact ⟨0, rfl, by omega, Lib.hid (by rw [HM0.out]; exact ⟨HIS.out, Kept.refl _ _⟩)⟩
      case round =>
        obtain ⟨k, rfl, hk, HM⟩ := hrel
        by_cases hlt2 : k < xs.length
        · obtain ⟨b, off, rfl, hSb⟩ := HA.out k hlt2
          have hrd := HX.out.move (w' := wr) (S' := S) (R' := RInt) (fun b hb => HM.out.kept.block b (HS.out b hb).2 (HS.out b hb).1) (fun _ h => h) (fun _ _ _ h => h)
          obtain ⟨g0, g1, g2⟩ := rs_int hrd hlt2
          obtain ⟨x0, x1⟩ := HB.out k hlt2
          have HS3 := Lib.hid (markU_succ u false xs k hlt2)
          generalize xs[k] = x at *
          obtain ⟨n, rfl⟩ : ∃ n : Nat, x = n := ⟨x.toNat, by omega⟩
          have hm := HM.out
          obtain ⟨gu, rfl, hgu, cu⟩ := used_cell hm.is.ru (i := n) (by rw [markU_len]; omega) (by rw [markU_len]; exact HL.out)
          have hp0 := hm.is.blk.cells
          have zf := hm.is.ru.frozenAt
          have hnl : n < l.length := by have := HL.out; omega
          clear hm hrd
          generalize (markU u false (List.take k xs))[n]'(by rw [markU_len]; omega) = bu at *
          go_wp2_with fail
          go_roundw
          case rel =>
            refine ⟨k + 1, by go_num, by omega, Lib.hid ?_⟩
            rw [HS3.out]
            simpa using HM.out.set_ n false
          case measure => simp [intOf]; omega
        · obtain rfl : k = xs.length := by omega
          go_wp2_with fail
          go_ret
          refine ⟨by rw [HF.out, errV_0]; rfl, ?_, HM.out.kept⟩
          have := HM.out.is
          rw [List.take_length] at this
          unfold claimU
          rw [if_pos HF.out]
          exact this
end
end Go.Proofs.Yticmfflnenoplab
