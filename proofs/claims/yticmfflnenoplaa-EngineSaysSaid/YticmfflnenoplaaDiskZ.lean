/- The program's disk: Arm, Down; and what its law asks of both disks side by side. -/
import Derived.Test.YticmfflnenoplaaDiskX
import Derived.Test.YticmfflnenoplaaDiskY
namespace Go.Proofs.Yticmfflnenoplaa
open Go.RowKit Dk

set_option maxHeartbeats 400000 in
theorem DkP.arm_any (s : St) (n : Int) (b : Nat) (wv : Value) (w : World) (h : Is 160 165 w b wv s) :
    Calls Try.prog 25 #[.pointer (some ⟨b, 0, none⟩), .int .i64 n] w (OpPost 160 165 b wv w (.tuple #[]) (armS s n)) := by
  have hb := h.blk
  have hc := hb.cells
  have hf := hb.frozens
  unfold Dk.cells at hc
  by_cases hn : n < -1
  · go_enter Try.func25, Try.ntmps25
    go_wp2
    go_end0
    refine ⟨rfl, h.step ?_ rfl ((Kept.refl _ _).set1 _) (by decide)⟩
    have := hb.set_ 9 (.int .i64 (-1))
    simpa [Dk.cells, armS, show max n (-1) = -1 from by omega] using this
  · go_enter Try.func25, Try.ntmps25
    go_wp2
    go_end0
    refine ⟨rfl, h.step ?_ rfl ((Kept.refl _ _).set1 _) (by decide)⟩
    have := hb.set_ 9 (.int .i64 n)
    simpa [Dk.cells, armS, show max n (-1) = n from by omega] using this

set_option maxHeartbeats 400000 in
theorem DkP.down_any (s : St) (b : Nat) (wv : Value) (w : World) (h : Is 160 165 w b wv s) :
    Calls Try.prog 32 #[.pointer (some ⟨b, 0, none⟩)] w fun e w' => e = .returned (.bool s.down) ∧ w = w' := by
  have hc := h.blk.cells
  unfold Dk.cells at hc
  go_enter Try.func32, Try.ntmps32
  go_wp2
  go_ret
  exact ⟨rfl, rfl⟩

theorem assert_errno (n : Int) (w : World) : (Instr.typeAssert (.iface 161 (.int .i64 n)) 39 161 true).run Try.prog w = .ok (.tuple #[.int .i64 n, .bool true]) w := by
  simp [Instr.typeAssert, run_underlying Try.underlying161]
set_option maxHeartbeats 400000 in
theorem same_any (n : Int) (h0 : 0 ≤ n) (w : World) :
    Calls Try.prog 16 #[DkP.V n, .int .i64 n] w fun e w' => e = .returned (.bool true) ∧ w = w' := by
  by_cases h : n = 0
  · subst h
    have hv : DkP.V 0 = .nilIface := rfl
    rw [hv]
    clear hv
    go_enter Try.func16, Try.ntmps16
    go_wp2
    go_ret
    exact ⟨rfl, rfl⟩
  · have hv : DkP.V n = .iface 161 (.int .i64 n) := by simp [DkP.V, h]
    rw [hv]
    clear hv
    have hp : 0 < n := by omega
    clear h
    have hta := fun w => assert_errno n w
    go_enter Try.func16, Try.ntmps16
    go_wp2_with fail
    go_ret
    exact ⟨rfl, rfl⟩
end Go.Proofs.Yticmfflnenoplaa
