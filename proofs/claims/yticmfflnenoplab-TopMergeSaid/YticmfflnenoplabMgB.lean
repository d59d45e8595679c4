/- TopMerge: combine, its walk where no wish is left. -/
import Derived.Test.YticmfflnenoplabMgA
import Derived.Test.YticmfflnenoplabMergeF
import Derived.Deep.QuietTactic
namespace Go.Proofs.Yticmfflnenoplab
open Go.RowKit Mk
theorem wish_move {w w' : World} {B : Nat} {cs : List Value} {l : List Wi} (h : RS w (· < B) 2 (RWish w (· < B)) cs l) (hb : Below B w w') : RS w' (· < B) 2 (RWish w' (· < B)) cs l :=
  RS.move h (fun b hb' => hb.block b hb') (fun _ h => h) fun _ _ _ ⟨hv, h1, h2⟩ => ⟨hv, h1, RS.move h2 (fun b hb' => hb.block b hb') (fun _ h => h) fun _ _ _ h => h⟩
section
attribute [local irreducible] nodes
set_option maxHeartbeats 1500000 in
theorem combine_zero (n : Nat) (v : Value) (so h : Hint) (hz : so.mask = 0) (w : World) :
    Calls Try.prog 10 #[.int .u8 n, v, so.val, h.val] w (RetBB true w) := by
  have hwb : Below w.heap.size w ((w.alloc (.cells #[.int .u8 so.mask, .bool so.good] 25)).alloc (.cells #[.int .u8 h.mask, .bool h.good] 25)) := ((Below.refl _ _).alloc (Nat.le_refl _) _).alloc (by simp) _
  unfold Hint.val
  rw [hz] at hwb ⊢
  go_enter Try.func10, Try.ntmps10
  go_wp2_with fail
  go_ret
  exact ⟨rfl, hwb⟩
set_option maxRecDepth 100000 in
set_option maxHeartbeats 2500000 in
theorem combine_nil (n : Nat) (A : Option Addr) (c : Nat) (so h : Hint) (hz : so.mask ≠ 0) (h1 : so.mask < 256) (h2 : h.mask < 256)
    (hl : (so.good = h.good ∧ (nodes h.mask < nodes so.mask ∨ nodes so.mask = nodes h.mask ∧ h.mask ≤ so.mask)) ∨ (h.good = true ∧ so.good = false)) (w : World) :
    Calls Try.prog 10 #[.int .u8 n, .slice A 0 c, so.val, h.val] w (RetBB true w) := by
  have HN1 := Lib.hid (fun W => (nodes_any so.mask h1 W))
  have HN2 := Lib.hid (fun W => (nodes_any h.mask h2 W))
  obtain ⟨sm, sg⟩ := so
  obtain ⟨hm, hg⟩ := h
  unfold Hint.val
  dsimp only at *
  have hzz : ((sm : Int) == 0) = false := by rw [beq_eq_false_iff_ne]; omega
  have hwb : Below w.heap.size w ((w.alloc (.cells #[.int .u8 sm, .bool sg] 25)).alloc (.cells #[.int .u8 hm, .bool hg] 25)) := ((Below.refl _ _).alloc (Nat.le_refl _) _).alloc (by simp) _
  have k1 := (Blk.new w 25 #[.int .u8 sm, .bool sg]).alloc (.cells #[.int .u8 hm, .bool hg] 25)
  have k2 := Blk.new (w.alloc (.cells #[.int .u8 sm, .bool sg] 25)) 25 #[.int .u8 hm, .bool hg]
  rw [show (w.alloc (.cells #[.int .u8 sm, .bool sg] 25)).heap.size = w.heap.size + 1 by simp] at k2
  go_enter Try.func10, Try.ntmps10
  go_upto_region 4 with fail
  generalize (w.alloc (.cells #[.int .u8 sm, .bool sg] 25)).alloc (.cells #[.int .u8 hm, .bool hg] 25) = wq at *
  generalize hpb : w.heap.size = pb at *
  have e1 := k1.cells
  have e2 := k2.cells
  have l1 := k1.lt
  have l2 := k2.lt
  rcases hl with ⟨rfl, hl | ⟨hl, hm2⟩⟩ | ⟨rfl, rfl⟩
  · cases sg
    all_goals
      go_quiet ((first | (go_at_call 33; exact Calls.quiet_of_same ((HN1.out _).mono fun _ _ hh => ⟨hh.1, hh.2.symm⟩)) | (go_at_call 33; exact Calls.quiet_of_same ((HN2.out _).mono fun _ _ hh => ⟨hh.1, hh.2.symm⟩))))
      go_wp2_with fail
      go_ret
      exact ⟨by simp, by rw [hpb]; exact ⟨hwb.os, hwb.tape, hwb.output, hwb.size, hwb.block⟩⟩
  · have hng : ¬ nodes sm > nodes hm := by omega
    have hmi : (hm : Int) ≤ (sm : Int) := by omega
    cases sg
    all_goals
      go_quiet ((first | (go_at_call 33; exact Calls.quiet_of_same ((HN1.out _).mono fun _ _ hh => ⟨hh.1, hh.2.symm⟩)) | (go_at_call 33; exact Calls.quiet_of_same ((HN2.out _).mono fun _ _ hh => ⟨hh.1, hh.2.symm⟩))))
      go_wp2_with fail
      go_ret
      exact ⟨by simp, by rw [hpb]; exact ⟨hwb.os, hwb.tape, hwb.output, hwb.size, hwb.block⟩⟩
  · have hx : true = true := rfl
    clear hx
    go_quiet ((first | (go_at_call 33; exact Calls.quiet_of_same ((HN1.out _).mono fun _ _ hh => ⟨hh.1, hh.2.symm⟩)) | (go_at_call 33; exact Calls.quiet_of_same ((HN2.out _).mono fun _ _ hh => ⟨hh.1, hh.2.symm⟩))))
    go_wp2_with fail
    go_ret
    exact ⟨by simp, by rw [hpb]; exact ⟨hwb.os, hwb.tape, hwb.output, hwb.size, hwb.block⟩⟩
end
end Go.Proofs.Yticmfflnenoplab
