/- Small words that the texts of all chapters use: what a function of a bool returns, errors, slices of the call's own. -/
import Derived.Test.YticmfflnenoplabDoorBase
import Derived.Test.YticmfflnenoplabDoorFlo
namespace Go.Proofs.YticmfflnenoplabDoor
open Go.RowKit

def RetB (b : Bool) (w : World) (e : Ending) (w' : World) : Prop := e = .returned (.bool b) ∧ w = w'
def RetBB (b : Bool) (w : World) (e : Ending) (w' : World) : Prop := e = .returned (.bool b) ∧ Below w.heap.size w w'

/-- An error by its number (0: none). -/
def errV (n : Int) : Value := if n = 0 then .nilIface else .iface 59 (.int .i64 n)
theorem errV_0 : errV 0 = .nilIface := rfl
theorem errV_pos (n : Int) (h : n ≠ 0) : errV n = .iface 59 (.int .i64 n) := by simp [errV, h]
theorem assertE (n : Int) (w : World) : (Instr.typeAssert (.iface 59 (.int .i64 n)) 27 59 true).run Tryd.prog w = .ok (.tuple #[.int .i64 n, .bool true]) w := by
  simp [Instr.typeAssert, run_underlying Tryd.underlying59]
set_option maxHeartbeats 400000 in
/-- An error and its number. -/
theorem same_yes (n : Int) (h0 : 0 ≤ n) (w : World) : Calls Tryd.prog 9 #[errV n, .int .i64 n] w (RetB true w) := by
  by_cases h : n = 0
  · subst h
    rw [errV_0]
    go_enter Tryd.func9, Tryd.ntmps9
    go_wp2
    go_ret
    exact ⟨rfl, rfl⟩
  · rw [errV_pos n h]
    have hp : 0 < n := by omega
    clear h
    have hta := fun w => assertE n w
    go_enter Tryd.func9, Tryd.ntmps9
    go_wp2_with fail
    go_ret
    exact ⟨rfl, rfl⟩

theorem own_form {w : World} {base : Nat} {e : TypeId} {size n : Nat} {v : Value} {xs : List Value} (h : w.ownsRow base e size v n xs) : ∃ A cap, v = .slice A n cap ∧ n ≤ cap ∧ cap ≤ maxLen ∧ (0 < n → ∃ g, A = some ⟨g, 0, none⟩ ∧ g < w.heap.size ∧ base ≤ g) := by
  rcases h.2 with ⟨h1, h0⟩ | ⟨g, cap, cur, h1, h2, h3, h4, h5, _⟩
  · exact ⟨none, 0, by rw [h1, h0], by omega, by simp [maxLen], fun hn => by omega⟩
  · exact ⟨_, cap, h1, h4, h5, fun _ => ⟨g, rfl, Blk.lt (t := e) (cs := cur) h3, h2⟩⟩
theorem own_below {w w' : World} {base : Nat} {e : TypeId} {size n : Nat} {v : Value} {xs : List Value} (h : w.ownsRow base e size v n xs) (hb : Below w.heap.size w w') : w'.ownsRow base e size v n xs :=
  own_kept (S := fun _ => False) h (Kept.of_below hb) fun _ _ h => h
end Go.Proofs.YticmfflnenoplabDoor
