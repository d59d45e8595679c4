/- The law PickSays returns true for every input and leaves its input as it was; the listed variables of Go's library are tied to the program's text. Conditions: none beyond the given statement's own. -/
import Derived.Test.YticmfflnenoplaaDoorRows
import Derived.Test.YticmfflnenoplaaDoorTie
import Derived.Test.YticmfflnenoplaaDoorCards
import Derived.Test.YticmfflnenoplaaDoorQ06
import Derived.ProofKit
import Derived.LaidMore
import Derived.Lay
import Derived.OpenShut
import Derived.Stop.Joined
import Derived.Stop.LaidErr
import Derived.Lib.LaidTab
import Derived.ChangeOld
import Derived.ShutString
import Derived.SevenTiedAt
namespace Go.Proofs.YticmfflnenoplaaDoor.lawPickSays
open Go.ChangeShapes Go.WideShapes Go.ChangeAt Go.RowKit

theorem own : ownKnob Tryd.prog.godebug = none := by kernel_rfl
theorem laidOut : laidOutB Tryd.prog = true := by kernel_rfl
theorem door_met (os : Os) (args : Array Value) : laidMetH Tryd.prog Rows.pickSaysRow.laid ((World.laidAll Tryd.prog os Rows.pickSaysRow.laid).forCall (fun _ _ => 0) ⟨#[], args, []⟩).memory := by
  rw [MakeChecks.laidMetH_plain _ _ _ (by kernel_rfl)]
  exact laidMet_laidAll _ (by kernel_rfl) (by kernel_rfl)
theorem gD : Tryd.prog.globalNamed "math/bits.deBruijn64tab" = some 2 := by kernel_rfl
theorem rows1 : Rows.pickSaysRow.laid = [("math/bits.deBruijn64tab", Lib.tabData .u8 (Lib.deBruijn64tab.map fun n : Nat => (n : Int)))] := rfl
/-- From the row's listed variable to what the walk asks for. -/
theorem lay_of {W : World} (hL : laidMetH Tryd.prog Rows.pickSaysRow.laid W) : TabAt 2 Lib.deBruijn64tab W := by
  have h : laidMet Tryd.prog Rows.pickSaysRow.laid W := hL
  rw [rows1] at h
  intro j hj
  have := (Lib.tabIs_of_head gD (by kernel_rfl) Tryd.underlying112 Tryd.underlying5 (by kernel_rfl) (by kernel_rfl) h).cell gD j (by simpa using hj)
  rw [this]
  simp [List.getD, hj]
set_option maxRecDepth 100000 in
theorem lifted (os : Os) (started : os.Started) (H : Type) (enc : TypeId × Value → H) :
    ReturnsInHanded {} Tryd.checked os 4 .any (fun w args => (Rows.pickSaysSpec.pre enc Tryd.prog Tryd.f4 [] false w args ∧ laidMetH Tryd.prog Rows.pickSaysRow.laid w) ∧ sizedMet enc Tryd.prog Tryd.f4 (OpenSpec.ofChange Rows.pickSaysSpec) false w args)
      (Rows.pickSaysSpec.post enc Tryd.prog Tryd.f4 false true false false) := by
  refine returnsInHanded_of_calls (C := Tryd.checked) own started (by kernel_rfl)
    (ChangeSpec.witness_shaped (enc := enc) (C := Tryd.checked) (os := os) (X := fun w _ => laidMetH Tryd.prog Rows.pickSaysRow.laid w) false (World.laidAll Tryd.prog os Rows.pickSaysRow.laid) #[.slice none 0 0, .int .u64 0, .int .i64 0, .int .u8 0] 8 (World.laidAll_os _ _ _) (World.shaped_of_ZipB (by kernel_rfl) (by kernel_rfl)) (by kernel_rfl) (by kernel_rfl) (by kernel_rfl) (door_met os _)) ?_
  intro w tape i _ _ _ hok hpre _
  obtain ⟨_, _, _, fn', hfn', _, _, _, _, hval0⟩ := hok
  obtain rfl : fn' = Tryd.f4 := Option.some.inj (hfn'.symm.trans Tryd.func4)
  obtain ⟨⟨⟨ds, gs, before, hw, _⟩, hL0⟩, _⟩ := hpre
  have hW := DataW.Whole.of_heap (w' := w.forCall tape i) (by rfl) hw
  have hL : TabAt 2 Lib.deBruijn64tab (w.forCall tape i) := lay_of (hL0.of_heap (by rfl))
  generalize hWd : w.forCall tape i = W at *
  generalize hAd : i.args = args at *
  have hval : ∀ (j : Nat) t v, Tryd.f4.params[j]? = some t → args[j]? = some v → Value.okWide Tryd.prog W .any w.heap.size t v := hval0
  suffices hC : Calls Tryd.prog 4 args W fun e W' => ∃ v, e = .returned v ∧ Rows.pickSaysSpec.post enc Tryd.prog Tryd.f4 false true false false W args v W' by
    refine hC.mono fun e W' ⟨v, he, hp⟩ => ?_
    subst he
    subst hWd
    exact ChangeSpec.post_blind hp
  clear hw hfn' hL0
  have hW' := hW
  obtain ⟨p, q, hA0, hV, rfl, hfz, hnd⟩ := hW
  have hA : DataW.TrodAll enc Tryd.prog W 0 (fun _ => true) true Tryd.f4.params.toList args.toList ds p := hA0
  rw [Tryd.params4] at hA hval
  obtain ⟨v0, vs0, d0, ds0, p0, q0, hargs0, rfl, rfl, h0, r0⟩ := trodAll_cons hA
  obtain ⟨v1, vs1, d1, ds1, p1, q1, hargs1, rfl, rfl, h1, r1⟩ := trodAll_cons r0
  obtain ⟨v2, vs2, d2, ds2, p2, q2, hargs2, rfl, rfl, h2, r2⟩ := trodAll_cons r1
  obtain ⟨v3, vs3, d3, ds3, p3, q3, hargs3, rfl, rfl, h3, r3⟩ := trodAll_cons r2
  obtain ⟨rfl, rfl, rfl⟩ := trodAll_nil r3
  obtain rfl : args = #[v0, v1, v2, v3] := by cases args; simp_all
  obtain ⟨rfl, rfl⟩ := trodVars_none hV
  have k0 := h0
  have lt0 : ∀ x ∈ p0, x.block < W.heap.size := by obtain ⟨m, hm⟩ := k0; exact DataW.trod_lt m _ _ _ hm
  have k1 := h1
  have lt1 : ∀ x ∈ p1, x.block < W.heap.size := by obtain ⟨m, hm⟩ := k1; exact DataW.trod_lt m _ _ _ hm
  have k2 := h2
  have lt2 : ∀ x ∈ p2, x.block < W.heap.size := by obtain ⟨m, hm⟩ := k2; exact DataW.trod_lt m _ _ _ hm
  have k3 := h3
  have lt3 : ∀ x ∈ p3, x.block < W.heap.size := by obtain ⟨m, hm⟩ := k3; exact DataW.trod_lt m _ _ _ hm
  obtain ⟨a0, len0, cap0, rfl⟩ := okWide_slice Tryd.underlying31 (hval 0 31 v0 rfl rfl)
  obtain ⟨l0, hw0⟩ : ∃ l : List Tp.Cpu, RS W (· < W.heap.size) 3 RCpu [.slice a0 len0 cap0] l := by obtain ⟨fuel, hf⟩ := h0; exact cpus_of (by simpa [Value.cells] using hf)
  obtain ⟨n1, rfl, b1⟩ := open_num Tryd.underlying33 (hval 1 33 v1 rfl rfl) h1
  obtain ⟨m1, rfl, hm1⟩ : ∃ m : Nat, n1 = (m : Int) ∧ m < 18446744073709551616 := by have := bounds_u64 b1; exact ⟨n1.toNat, by omega, by omega⟩
  obtain ⟨n2, rfl, b2⟩ := open_num Tryd.underlying3 (hval 2 3 v2 rfl rfl) h2
  have b2' := bounds_i64 b2
  obtain ⟨n3, rfl, b3⟩ := open_num Tryd.underlying34 (hval 3 34 v3 rfl rfl) h3
  obtain ⟨m3, rfl, hm3⟩ : ∃ m : Nat, n3 = (m : Int) ∧ m < 256 := by have := bounds_u8 b3; exact ⟨n3.toNat, by omega, by omega⟩
  have hgl : 2 < W.heap.size := World.block_lt_of_cell? W _ (hL 0 (by decide))
  clear hA0 hval0
  refine (pickSays_any l0 _ m1 m3 n2 hm1 hm3 b2' W hL hgl hw0).mono fun e W' ⟨he, bel⟩ => ?_
  subst he
  exact ⟨_, rfl, _, _, _, [], _, [], hW', trodAll_mk1 (shut_bool Tryd.underlying4 _), (trodAll_cons_mk (Below.trod laidOut (by kernel_rfl) (of_decide_eq_true (by kernel_rfl)) k0 bel lt0) (trodAll_cons_mk (Below.trod laidOut (by kernel_rfl) (of_decide_eq_true (by kernel_rfl)) k1 bel lt1) (trodAll_cons_mk (Below.trod laidOut (by kernel_rfl) (of_decide_eq_true (by kernel_rfl)) k2 bel lt2) (trodAll_cons_mk (Below.trod laidOut (by kernel_rfl) (of_decide_eq_true (by kernel_rfl)) k3 bel lt3) trodAll_mk0)))), rfl, bel.frame _, fun h => by cases h⟩

theorem over : Rows.pickSaysRow.holds Tryd.pinned (OpenSpec.ofChange Rows.pickSaysSpec) :=
  OpenClaim.holds_of_wide 4 Tryd.f4 rfl rfl rfl rfl rfl rfl rfl ⟨rfl, rfl, rfl, rfl, rfl⟩ rfl rfl rfl rfl rfl (by kernel_rfl) Tryd.func4 (by kernel_rfl)
    (of_decide_eq_true (by kernel_rfl)) (by unfold Func.isWrapper; first | (rw [if_pos (by decide +kernel)]; kernel_rfl) | (rw [if_neg (by decide +kernel)]; exact ⟨rfl, rfl⟩))
    (fun os started H enc _ => lifted os started H enc)

theorem proved : Rows.PickSaysCardSaid :=
  Claim7.holds_tied_plain_at .later [] [.data] true (true, "072284f4957f0fe051397a6cc014c4e8f3a8c153e79f64f7d0c53192bda4e0bf") true
    over (fun _ h => by cases h) (by kernel_rfl) (fun _ h => by cases h) pickSays_row_tie rfl ⟨rfl, rfl⟩ (by kernel_rfl) rfl
    (fun f fn hf hfn => by
      obtain rfl : f = 4 := Option.some.inj ((show Tryd.prog.funcNamed "ostlery/ostlerylaw.PickSays" = some 4 by kernel_rfl).symm.trans hf) |>.symm
      obtain rfl : fn = Tryd.f4 := (Option.some.inj (Tryd.func4.symm.trans hfn)).symm
      exact ⟨by kernel_rfl, fun j t ht => by
        rw [Tryd.params4] at ht
        rcases j with _ | _ | _ | _ | j <;> simp at ht <;> subst ht <;> kernel_rfl⟩)
    (by kernel_rfl)
#print axioms proved
end Go.Proofs.YticmfflnenoplaaDoor.lawPickSays
