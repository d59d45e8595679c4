/- Amounts: Milli, MilliText: their walks. -/
import Derived.Test.YticmfflnenoplabDoorAmC
namespace Go.Proofs.YticmfflnenoplabDoor
open Go.RowKit Am Go.Sort
/-- What of Go's library is laid. -/
structure Lay (w : World) : Prop where
  tab : Lib.TabIs Tryd.prog w "internal/strconv.uint64pow10" .u64 Lib.pow10Tab
  most : ∃ m : Int, w.cell? ⟨1, 0, none⟩ = some (.int .i64 m)
theorem Lay.below {w w' : World} (h : Lay w) (hb : Below w.heap.size w w') : Lay w' := by
  refine ⟨?_, ?_⟩
  · have ht := h.tab
    unfold Lib.TabIs World.var? at ht ⊢
    rw [show Tryd.prog.globalNamed "internal/strconv.uint64pow10" = some 2 by kernel_rfl] at ht ⊢
    simp only [Option.bind_some] at ht ⊢
    have hlt : 2 < w.heap.size := by
      rcases Nat.lt_or_ge 2 w.heap.size with h' | h'
      · exact h'
      · rw [Array.getElem?_eq_none h'] at ht; cases ht
    rw [hb.block _ hlt]
    exact ht
  · obtain ⟨m, hm⟩ := h.most
    exact ⟨m, (hb.cell (World.block_lt_of_cell? w _ hm)).trans hm⟩
theorem Lay.below' {w w' : World} {B : Nat} (h : Lay w) (hb : Below B w w') (hB : w.heap.size ≤ B) : Lay w' := h.below (hb.mono hB)
theorem below_drewN9 {B : Nat} {a w : World} (h : Below B a w) (n : Nat) : Below B a (w.drewN n) := ⟨h.os, h.tape, h.output, h.size, h.block⟩
theorem below_grow9 {B : Nat} {a w : World} (h : Below B a w) (os : Array Obj) (hB : B ≤ w.heap.size) : Below B a (grow w os) := by
  refine ⟨h.os, h.tape, h.output, ?_, ?_⟩
  · have := h.size
    simp [grow]
    omega
  · intro b hb
    rw [← h.block b hb]
    show (w.heap ++ os)[b]? = w.heap[b]?
    rw [Array.getElem?_append_left (by omega)]
theorem itoa_any (n : Int) (h0 : -9223372036854775808 ≤ n) (h1 : n ≤ 9223372036854775807) (w : World) (hL : Lay w) :
    Calls Tryd.prog 32 #[.int .i64 n] w (fun e w' => e = .returned (.string ⟨(Lib.itoa n).toArray⟩) ∧ Below w.heap.size w w') := by
  refine (Tryd.strconv_Itoa n h0 h1 w hL.tab).mono ?_
  rintro e w' ⟨rfl, k, os, rfl⟩
  exact ⟨rfl, below_grow9 (below_drewN9 (Below.refl _ _) k) os (Nat.le_refl _)⟩
theorem cut_any (s sep : ByteArray) (hs : s.size < 4294967281) (w : World) (hL : Lay w) :
    Calls Tryd.prog 36 #[.string s, .string sep] w (fun e w' => e = .returned (.tuple #[.string ⟨(Lib.cut s.data.toList sep.data.toList).1.toArray⟩, .string ⟨(Lib.cut s.data.toList sep.data.toList).2.1.toArray⟩, .bool (Lib.cut s.data.toList sep.data.toList).2.2]) ∧ Below w.heap.size w w') := by
  obtain ⟨m, hm⟩ := hL.most
  refine (Tryd.strings_Cut s sep m w hs hm).mono ?_
  rintro e w' ⟨rfl, k, rfl⟩
  exact ⟨rfl, below_drewN9 (Below.refl _ _) k⟩
def RetNE (r : Int × Int) (w : World) (e : Ending) (w' : World) : Prop := e = .returned (.tuple #[.int .i64 r.1, errV r.2]) ∧ Below w.heap.size w w'
theorem RetNE.nil {r : Int × Int} {n : Int} {w w' : World} (h : r = (n, 0)) (hb : Below w.heap.size w w') : RetNE r w (.returned (.tuple #[.int .i64 n, .nilIface])) w' := by
  subst h; exact ⟨rfl, hb⟩
theorem RetNE.err {r : Int × Int} {n m : Int} {w w' : World} (h : r = (n, m)) (hm : m ≠ 0) (hb : Below w.heap.size w w') : RetNE r w (.returned (.tuple #[.int .i64 n, .iface 59 (.int .i64 m)])) w' := by
  subst h; exact ⟨by dsimp only; rw [errV_pos m hm], hb⟩
def RetSE (s : List UInt8) (f : Int) (w : World) (e : Ending) (w' : World) : Prop := e = .returned (.tuple #[.string ⟨s.toArray⟩, errV f]) ∧ Below w.heap.size w w'
theorem itoa_len (n : Int) (h0 : 0 ≤ n) (h1 : n ≤ 1125899906842624) : (Lib.itoa n).length ≤ 16 := by
  obtain ⟨m, rfl⟩ : ∃ m : Nat, n = m := ⟨n.toNat, by omega⟩
  rw [itoa_nat]
  exact dec_len m 16 (by omega) (by omega)
section
attribute [local irreducible] Lib.itoa
set_option maxHeartbeats 1000000 in
theorem MilliText_any (n : Int) (h0 : 0 ≤ n) (h1 : n ≤ 1000000) (w : World) (hL : Lay w) : Calls Tryd.prog 26 #[.int .i64 n] w (RetSE (milliT n) 0 w) := by
  have HI := Lib.hid (fun (k : Int) (hk : 0 ≤ k ∧ k ≤ 1000000) => itoa_any k (by omega) (by omega) w hL)
  have HT := Lib.hid (fun (k : Int) (hk : 0 ≤ k ∧ k ≤ 1000000) => itoa_len k hk.1 (by omega))
  clear hL
  by_cases hm : n % 1000 = 0
  · have HM := Lib.hid (show milliT n = Lib.itoa (n / 1000) by simp [milliT, hm])
    go_enter Tryd.func26, Tryd.ntmps26
    go_wp2_with fail
    refine (HI.out (n / 1000) (by omega)).mono ?_
    rintro e w1 ⟨rfl, hb1⟩
    go_wp2_with fail
    go_ret2
    exact ⟨by rw [HM.out]; rfl, hb1⟩
  · have HM := Lib.hid (show milliT n = Lib.itoa n ++ [109] by simp [milliT, hm])
    go_enter Tryd.func26, Tryd.ntmps26
    have hl := HT.out n (by omega)
    go_wp2_with fail
    refine (HI.out n (by omega)).mono ?_
    rintro e w1 ⟨rfl, hb1⟩
    generalize Lib.itoa n = l at *
    go_wp2_with fail
    go_ret2
    exact ⟨by rw [HM.out]; rfl, hb1⟩
set_option maxHeartbeats 1000000 in
theorem MilliText_bad (n : Int) (h : n < 0 ∨ 1000000 < n) (w : World) : Calls Tryd.prog 26 #[.int .i64 n] w (RetSE [] 1 w) := by
  rcases h with h | h
  · go_enter Tryd.func26, Tryd.ntmps26
    go_wp2_with fail
    go_ret2
    exact ⟨rfl, Below.refl _ _⟩
  · have h2 : ¬ n < 0 := by omega
    go_enter Tryd.func26, Tryd.ntmps26
    go_wp2_with fail
    go_ret2
    exact ⟨rfl, Below.refl _ _⟩
end
end Go.Proofs.YticmfflnenoplabDoor
