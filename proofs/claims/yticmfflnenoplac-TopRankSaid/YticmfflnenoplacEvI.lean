/- Who goes first: the reference's Relieve, the law's own functions: their walks. No statement is proved here. -/
import Derived.Test.YticmfflnenoplacEvH
import Derived.Test.YticmfflnenoplacLiP
namespace Go.Proofs.Yticmfflnenoplac
open Go.RowKit Go.Deep Da Qo Ev
namespace Ev
def nm (l : List Row) : List ByteArray := l.map Row.name
theorem nm_len (l : List Row) : (nm l).length = l.length := by simp [nm]
theorem namesV_flat (l : List Row) : namesV l = (nm l).flatMap fun x => [.string x] := by
  unfold namesV nm
  induction l with
  | nil => rfl
  | cons x l ih => rw [List.map_cons, ih]; simp
end Ev
def RStr_ (cs : List Value) (s : ByteArray) : Prop := cs = [.string s] ∧ s.size ≤ maxLen
theorem rs_names {w : World} {base n : Nat} {v : Value} {l : List Row} (h : w.ownsRow base 9 1 v n (namesV l)) (hn : n = l.length) : RS w (fun b => v.ownBlock = some b) 1 RStr_ [v] (nm l) :=
  RS.own (f := fun x => [.string x]) (by
    rw [nm_len, ← namesV_flat, ← hn]
    exact h) (fun _ _ => rfl) (fun x hx => ⟨rfl, by
      obtain ⟨r, _, rfl⟩ := List.mem_map.1 hx
      have := r.h.2.2
      unfold maxLen
      omega⟩) (fun g hg => hg)
theorem RS.take {α : Type} {w : World} {S : Nat → Prop} {C : Nat} {R : List Value → α → Prop} {A : Option Addr} {n c : Nat} {l : List α} (h : RS w S C R [.slice A n c] l) (k : Nat) (hk : k ≤ l.length) : RS w S C R [.slice A k c] (l.take k) := by
  obtain ⟨A', cap, h1, h2, h3, h4⟩ := h
  simp only [List.cons.injEq, Value.slice.injEq, and_true] at h1
  obtain ⟨rfl, rfl, rfl⟩ := h1
  have hl : (l.take k).length = k := by rw [List.length_take]; omega
  refine ⟨A, c, by rw [hl], by omega, h3, ?_⟩
  rcases h4 with h4 | ⟨b, off, hA, hb, h4⟩
  · exact .inl (by omega)
  · refine .inr ⟨b, off, hA, hb, fun i hi => ?_⟩
    obtain ⟨cs', q1, q2, q3⟩ := h4 i (by omega)
    exact ⟨cs', q1, q2, by rw [List.getElem_take]; exact q3⟩
set_option maxRecDepth 100000 in
set_option maxHeartbeats 2000000 in
theorem SameT_any (v v2 : Value) (l : List ByteArray) (S S2 : Nat → Prop) (w : World) (hl : l.length ≤ 1000000) (h1 : RS w S 1 RStr_ [v] l) (h2 : RS w S2 1 RStr_ [v2] l) (hS : ∀ b, S b → b < w.heap.size) (hS2 : ∀ b, S2 b → b < w.heap.size) :
    Calls Try.prog 9 #[v, v2] w (RetBB true w) := by
  obtain ⟨A, c, hv, _, _, hA⟩ := h1.form
  obtain rfl : v = _ := by simpa using hv
  obtain ⟨A2, c2, hv2, _, _, hA2⟩ := h2.form
  obtain rfl : v2 = _ := by simpa using hv2
  have H1 := Lib.hid h1
  have H2 := Lib.hid h2
  have HA := Lib.hid hA
  have HA2 := Lib.hid hA2
  have HS := Lib.hid hS
  have HS2 := Lib.hid hS2
  clear h1 h2 hA hA2 hv hv2 hS hS2
  go_enter Try.func9, Try.ntmps9
  go_upto_region 4 with fail
  go_loopw [5] (fun i wi => ∃ k : Nat, i = .int .i64 k ∧ k ≤ l.length ∧ Below w.heap.size w wi) (fun i _ => l.length - (intOf i).toNat)
  case atStart => exact ⟨0, rfl, by omega, Below.refl _ _⟩
  case round =>
    obtain ⟨k, rfl, hk, hbel⟩ := hrel
    by_cases hlt : k < l.length
    · obtain ⟨b, off, rfl, hb⟩ := HA.out k hlt
      obtain ⟨b2, off2, rfl, hb2⟩ := HA2.out k hlt
      obtain ⟨_, cs1, _, q1, e1, _⟩ := (H1.out.move (w' := wr) (S' := S) (R' := RStr_) (fun b hb => hbel.block b (HS.out b hb)) (fun _ h => h) (fun _ _ _ h => h)).at_ hlt
      obtain ⟨_, cs2, _, q2, e2, _⟩ := (H2.out.move (w' := wr) (S' := S2) (R' := RStr_) (fun b hb => hbel.block b (HS2.out b hb)) (fun _ h => h) (fun _ _ _ h => h)).at_ hlt
      have r0 := q1 0 _ (by rw [e1]; rfl)
      have s0 := q2 0 _ (by rw [e2]; rfl)
      rw [Nat.mul_one, Nat.add_zero] at r0 s0
      clear q1 q2 e1 e2
      generalize l[k] = g at *
      go_upto_region 6 with fail
      go_quiet (fail)
      go_wp2_with fail
      go_roundw
      case rel => exact ⟨k + 1, by go_num, by omega, below_drewN3 hbel _⟩
      case measure => simp [intOf]; omega
    · obtain rfl : k = l.length := by omega
      go_wp2_with fail
      go_ret
      exact ⟨rfl, hbel⟩
def RRelP (us : List Use) (l : List Pod) (most : Int) (w : World) (e : Ending) (w' : World) : Prop :=
  ∃ A c n, e = .returned (.slice A n c) ∧ RS w' (fun b => w.heap.size ≤ b ∧ b < w'.heap.size) 1 RStr_ [.slice A n c] (nm (relL us l most)) ∧ Below w.heap.size w w'
theorem RRelP.of {us : List Use} {l : List Pod} {most : Int} {w w' : World} {A : Option Addr} {c k n : Nat} {rs : List Row} (hr : rs = rankL us l) (hk : k ≤ rs.length) (h : relF us most (sumU us l) rs = rs.take k) {base : Nat} (hbw : w.heap.size ≤ base) (hn : n = rs.length) (ho : w'.ownsRow base 9 1 (.slice A n c) n (namesV rs)) (hb : Below w.heap.size w w') :
    RRelP us l most w (.returned (.slice A k c)) w' := by
  have e : relL us l most = rs.take k := by unfold relL; rw [← hr, h]
  refine ⟨A, c, k, rfl, ?_, hb⟩
  have h1 := (rs_names ho hn).take k (by rw [nm_len]; exact hk)
  have e2 : (nm rs).take k = nm (relL us l most) := by rw [e]; simp [nm, List.map_take]
  rw [e2] at h1
  exact h1.move (fun _ _ => rfl) (fun b hb => ⟨by have := (ho.lt b hb).1; omega, (ho.lt b hb).2⟩) (fun _ _ _ h => h)
section
attribute [local irreducible] usedF rowOf rowsV rankL namesV askedB askedM sortR RPod RCont sumU relF leftU Goes relL
end
end Go.Proofs.Yticmfflnenoplac
