/- The disk of the program: each function by its plain answer. -/
import Derived.Test.YticmfflnenoplaaDiskQ
namespace Go.Proofs.Yticmfflnenoplaa.DkP
open Go.RowKit Dk

theorem OpPost.of_eq {T e : TypeId} {b : Nat} {wv : Value} {w : World} {v v' : Value} {s s' : St} {en : Ending} {w' : World} (h : OpPost T e b wv w v s en w') (hv : v = v') (hs : s = s') : OpPost T e b wv w v' s' en w' := by
  subst hv hs; exact h

theorem write_any (s : St) (t : ByteArray) (b : Nat) (wv : Value) (w : World) (hfu : -1 ≤ s.fuse) (hfu2 : s.fuse ≤ 9223372036854775807) (ht : t.size ≤ 9223372036854775807) (hwl : s.wait.length ≤ 1000) (h : Is 160 165 w b wv s) :
    Calls Try.prog 17 #[.pointer (some ⟨b, 0, none⟩), .string t] w (OpPost 160 165 b wv w (V (writeS s t).1) (writeS s t).2) := by
  by_cases hl : 6000 < t.size
  · exact (write_long s t b wv w ht hl h).mono fun _ _ hh => OpPost.of_eq hh (by simp [writeS, hl]; rfl) (by simp [writeS, hl])
  · refine (write_short s t b wv w hfu hfu2 (by omega) hwl h).mono fun _ _ hh => OpPost.of_eq hh ?_ (by simp [writeS, hl])
    cases hd : dead s <;> simp [writeS, hl, doS, hd] <;> rfl

theorem move_any (s : St) (b : Nat) (wv : Value) (w : World) (hfu : -1 ≤ s.fuse) (hfu2 : s.fuse ≤ 9223372036854775807) (hwl : s.wait.length ≤ 1000) (h : Is 160 165 w b wv s) :
    Calls Try.prog 19 #[.pointer (some ⟨b, 0, none⟩)] w (OpPost 160 165 b wv w (V (moveS s).1) (moveS s).2) := by
  cases hl : s.now.drafted
  · exact (move_none s b wv w hl h).mono fun _ _ hh => OpPost.of_eq hh (by simp [moveS, hl]; rfl) (by simp [moveS, hl])
  · refine (move_some s b wv w hfu hfu2 hl hwl h).mono fun _ _ hh => OpPost.of_eq hh ?_ (by simp [moveS, hl])
    cases hd : dead s <;> simp [moveS, hl, doS, hd] <;> rfl

theorem sync_any (s : St) (b : Nat) (wv : Value) (w : World) (hfu : -1 ≤ s.fuse) (hfu2 : s.fuse ≤ 9223372036854775807) (h : Is 160 165 w b wv s) :
    Calls Try.prog 21 #[.pointer (some ⟨b, 0, none⟩)] w (OpPost 160 165 b wv w (V (syncS s).1) (syncS s).2) := by
  cases hd : dead s
  · exact (sync_ok s b wv w hfu hfu2 h hd).mono fun _ _ hh => OpPost.of_eq hh (by rw [syncS_ok hd]; rfl) (by rw [syncS_ok hd])
  · exact (sync_dead s b wv w h hd).mono fun _ _ hh => OpPost.of_eq hh (by rw [syncS_dead hd]; rfl) (by rw [syncS_dead hd])

theorem step_any (s : St) (b : Nat) (wv : Value) (w : World) (hfu : -1 ≤ s.fuse) (hfu2 : s.fuse ≤ 9223372036854775807) (h : Is 160 165 w b wv s) :
    Calls Try.prog 23 #[.pointer (some ⟨b, 0, none⟩)] w (OpPost 160 165 b wv w (V (stepS s).1) (stepS s).2) := by
  cases hd : dead s
  · exact (step_ok s b wv w hfu hfu2 h hd).mono fun _ _ hh => OpPost.of_eq hh (by rw [stepS_ok hd]; rfl) (by rw [stepS_ok hd])
  · exact (step_dead s b wv w h hd).mono fun _ _ hh => OpPost.of_eq hh (by rw [stepS_dead hd]; rfl) (by rw [stepS_dead hd])

theorem restart_all (s : St) (keep torn : Int) (b : Nat) (wv : Value) (w : World) (hwl : s.wait.length ≤ 1000) (h : Is 160 165 w b wv s) (hdl : ∀ c ∈ s.wait, c.data.size ≤ 6000) :
    Calls Try.prog 28 #[.pointer (some ⟨b, 0, none⟩), .int .i64 keep, .int .i64 torn] w (OpPost 160 165 b wv w (.tuple #[]) (restartS s (kOf keep s.wait.length) torn)) :=
  restart_any s keep torn _ b wv w hwl h hdl (kOf_spec keep s.wait.length)
end Go.Proofs.Yticmfflnenoplaa.DkP

