/- topo: the sets of those processors that are so: its walks. -/
import Derived.Test.YticmfflnenoplabTopoA
import Derived.Test.YticmfflnenoplabSl
import Derived.Laws.BitsAllLaws
import Derived.Laws.ShiftsVarLaws
import Derived.Shelf.Abstract
namespace Go.Proofs.Yticmfflnenoplab
open Go.RowKit Tp

def Tp.Cpu.val (c : Cpu) : Value := .agg #[.int .i64 c.core, .int .i64 c.socket, .int .i64 c.node]
def Tp.Cpu.cells (c : Cpu) : List Value := [.int .i64 c.core, .int .i64 c.socket, .int .i64 c.node]
def RCpu (cs : List Value) (c : Cpu) : Prop := cs = c.cells ∧ (-9223372036854775808 ≤ c.core ∧ c.core ≤ 9223372036854775807) ∧ (-9223372036854775808 ≤ c.socket ∧ c.socket ≤ 9223372036854775807) ∧ (-9223372036854775808 ≤ c.node ∧ c.node ≤ 9223372036854775807)
/-- A topology that lies in memory: its own block p, its processors in blocks of the kind S. -/
def TopoAt (w : World) (S : Nat → Prop) (p : Nat) (l : List Cpu) : Prop := ∃ v, Blk w p 99 #[v] ∧ RS w S 3 RCpu [v] l
theorem TopoAt.move {w w' : World} {S S' : Nat → Prop} {p : Nat} {l : List Cpu} (h : TopoAt w S p l) (hp : w'.heap[p]? = w.heap[p]?) (hw : ∀ b, S b → w'.heap[b]? = w.heap[b]?) (hS : ∀ b, S b → S' b) : TopoAt w' S' p l := by
  obtain ⟨v, h1, h2⟩ := h
  exact ⟨v, hp.trans h1, RS.move h2 hw hS fun _ _ _ h => h⟩
theorem TopoAt.below {w w' : World} {B p : Nat} {l : List Cpu} (h : TopoAt w (· < B) p l) (hb : Below B w w') (hp : p < B) : TopoAt w' (· < B) p l := h.move (hb.block p hp) (fun b hb' => hb.block b hb') fun _ h => h
theorem shl64 (n : Nat) (h : n < 64) : IntKind.u64.wrap ((2 : Int) ^ n) = ((2 ^ n : Nat) : Int) := by
  have := Nat.pow_lt_pow_right (a := 2) (by omega) h
  have h3 : 2 ^ n < 18446744073709551616 := by simpa using this
  have h2 : (2 : Int) ^ n = ((2 ^ n : Nat) : Int) := by simp
  rw [h2, IntKind.wrap_u64]
  generalize 2 ^ n = x at *
  omega
def onB (m : Nat) (c : Cpu) : Bool := Pop.bit m c.node.toNat == 1
theorem bit_01 (m k : Nat) : Pop.bit m k ≤ 1 := by unfold Pop.bit; omega
theorem u8_bitp (m k : Nat) (hm : m < 256) : bits .and .u8 ((m : Int) / 2 ^ k) 1 = ((Pop.bit m k : Nat) : Int) := by
  have h1 : ((m : Int) / 2 ^ k) = ((m / 2 ^ k : Nat) : Int) := by simp
  have h2 : m / 2 ^ k < 256 := Nat.lt_of_le_of_lt (Nat.div_le_self _ _) hm
  rw [h1, show (1 : Int) = ((1 : Nat) : Int) from rfl, u8_and_nat _ _ h2 (by omega), nat_mask1]
  rfl
def RetU (m : Nat) (w : World) (e : Ending) (w' : World) : Prop := e = .returned (.int .u64 m) ∧ Below w.heap.size w w'

theorem wh_zero (f : Cpu → Bool) (l : List Cpu) : wh f l 0 = 0 := rfl
section
attribute [local irreducible] wh
set_option maxHeartbeats 2000000 in
theorem which_any (l : List Cpu) (hl : l.length ≤ 64) (f : Cpu → Bool) (k : Nat) (cap : Array Value) (B p : Nat) (w : World) (hB : B ≤ w.heap.size) (hT : TopoAt w (· < B) p l)
    (eg : ∀ args w, (callFunc k args).run Try.prog w = .ok (.enter k args) w) (hclo : ∀ (c : Cpu) (W : World), c ∈ l → Below w.heap.size w W → Calls Try.prog k (#[c.val] ++ cap) W (RetBB (f c) W)) :
    Calls Try.prog 34 #[.pointer (some ⟨p, 0, none⟩), .func (.func k) #[] cap] w (RetU (wh f l l.length) w) := by
  obtain ⟨v, h1, h2⟩ := hT
  obtain ⟨A, c, e, hc1, hc2, hA⟩ := h2.form
  obtain rfl : v = _ := by simpa using e
  unfold maxLen at hc2
  have e1 := h1.cells
  have HA := Lib.hid hA
  have HR := Lib.hid h2
  have HC := Lib.hid hclo
  clear hA h2 hclo e
  go_enter Try.func34, Try.ntmps34
  go_upto_region 3 with fail
  go_loopw [5, 13] (fun s i wr => ∃ n : Nat, i = .int .i64 n ∧ n ≤ l.length ∧ s = .int .u64 (wh f l n) ∧ Below w.heap.size w wr) (fun _ i _ => l.length - (intOf i).toNat)
  case atStart => exact ⟨0, rfl, by omega, by rw [wh_zero]; rfl, Below.refl _ _⟩
  case round =>
    obtain ⟨n, rfl, hn, rfl, hbel⟩ := hrel
    by_cases hlt : n < l.length
    · obtain ⟨b, off, rfl, hb⟩ := HA.out n hlt
      obtain ⟨_, cs', q1, q2, q3, q4⟩ := HR.out.at_ hlt
      have r0 := (hbel.cell (p := ⟨b, off + n * 3 + 0, none⟩) (by dsimp only; omega)).trans (q2 0 _ (by rw [q3]; rfl))
      have r1 := (hbel.cell (p := ⟨b, off + n * 3 + 1, none⟩) (by dsimp only; omega)).trans (q2 1 _ (by rw [q3]; rfl))
      have r2 := (hbel.cell (p := ⟨b, off + n * 3 + 2, none⟩) (by dsimp only; omega)).trans (q2 2 _ (by rw [q3]; rfl))
      rw [Nat.add_zero] at r0
      have hx := fun W hW => HC.out l[n] W (List.getElem_mem _) hW
      have hnx := Lib.hid (wh_next f l n hlt)
      have hw1 := wh_lt64 f l n (by omega)
      generalize l[n] = x at *
      obtain ⟨x0, x1, x2⟩ := x
      unfold Cpu.val at hx
      dsimp only at hx r0 r1 r2
      have HX := Lib.hid hx
      have HSH := Lib.hid (shl64 n (by omega))
      clear hx q1 q2 q3 q4
      go_wp2_with fail
      have hal : Below wr.heap.size wr (wr.alloc (.cells #[.int .i64 x0, .int .i64 x1, .int .i64 x2] 41)) := (Below.refl _ _).alloc (Nat.le_refl _) _
      refine (HX.out _ (hbel.trans (hal.mono hbel.size))).mono ?_
      rintro e w2 ⟨rfl, hb2⟩
      have hbel2 := (hbel.trans (hal.mono hbel.size)).trans (hb2.mono (by have := hbel.size; simp; omega))
      cases hf : f ⟨x0, x1, x2⟩
      · have HF := Lib.hid hf
        clear hf
        go_wp2_with fail
        go_roundw
        case rel => exact ⟨n + 1, by go_num, by omega, by rw [hnx.out, HF.out]; rfl, hbel2⟩
        case measure => simp [intOf]; omega
      · have HF := Lib.hid hf
        have hor := u64_or_nat (wh f l n) (2 ^ n) hw1 (by have := Nat.pow_lt_pow_right (a := 2) (by omega) (show n < 64 by omega); simpa using this)
        have HOR := Lib.hid hor
        clear hf hor
        go_wp2_with fail
        go_roundw
        case rel => exact ⟨n + 1, by go_num, by omega, by rw [hnx.out, HF.out, HSH.out, HOR.out]; rfl, hbel2⟩
        case measure => simp [intOf]; omega
    · obtain rfl : n = l.length := by omega
      go_wp2_with fail
      go_ret
      exact ⟨rfl, hbel⟩
end
section
attribute [local irreducible] wh
set_option maxHeartbeats 2000000 in
theorem All_any (l : List Cpu) (hl : l.length ≤ 64) (B p : Nat) (w : World) (hB : B ≤ w.heap.size) (hT : TopoAt w (· < B) p l) :
    Calls Try.prog 12 #[.pointer (some ⟨p, 0, none⟩)] w (RetU (wh (fun _ => true) l l.length) w) := by
  have h := which_any l hl (fun _ => true) 35 #[] B p w hB hT (enters_of Try.func35 (by kernel_rfl) rfl) (fun c W _ _ => by
    obtain ⟨c0, c1, c2⟩ := c
    unfold Cpu.val
    dsimp only
    simp only [Array.append_empty]
    go_enter Try.func35, Try.ntmps35
    go_wp2_with fail
    go_ret
    exact ⟨rfl, (Below.refl _ _).alloc (Nat.le_refl _) _⟩)
  have H := Lib.hid h
  clear h hT
  go_enter Try.func12, Try.ntmps12
  go_wp2_with fail
  refine H.out.mono ?_
  rintro e w1 ⟨rfl, hb1⟩
  go_wp2_with fail
  go_ret
  exact ⟨rfl, hb1⟩
set_option maxHeartbeats 2000000 in
theorem Core_any (n : Int) (l : List Cpu) (hl : l.length ≤ 64) (B p : Nat) (w : World) (hB : B ≤ w.heap.size) (hp : p < B) (hT : TopoAt w (· < B) p l) :
    Calls Try.prog 13 #[.pointer (some ⟨p, 0, none⟩), .int .i64 n] w (RetU (wh (fun c => c.core == n) l l.length) w) := by
  have hal : Below w.heap.size w (w.alloc (.cells #[.int .i64 n] 3)) := (Below.refl _ _).alloc (Nat.le_refl _) _
  have hb0 := Blk.new w 3 #[.int .i64 n]
  have h := which_any l hl (fun c => c.core == n) 36 #[.pointer (some ⟨w.heap.size, 0, none⟩)] B p (w.alloc (.cells #[.int .i64 n] 3)) (by simp; omega) (hT.below (hal.mono hB) hp) (enters_of Try.func36 (by kernel_rfl) rfl) (fun c W _ hW => by
    obtain ⟨c0, c1, c2⟩ := c
    unfold Cpu.val
    have hb := (hb0.below hW hb0.lt)
    have e0 := hb.cells
    have l0 := hb.lt
    dsimp only
    simp only [List.append_toArray, List.cons_append, List.nil_append]
    clear hT hal hb0 hW hb
    go_enter Try.func36, Try.ntmps36
    go_wp2_with fail
    go_ret
    exact ⟨by congr 1, (Below.refl _ _).alloc (Nat.le_refl _) _⟩)
  have H := Lib.hid h
  clear h hT hb0
  go_enter Try.func13, Try.ntmps13
  go_wp2_with fail
  refine H.out.mono ?_
  rintro e w1 ⟨rfl, hb1⟩
  go_wp2_with fail
  go_ret
  exact ⟨rfl, hal.trans (hb1.mono (by simp))⟩
set_option maxHeartbeats 2000000 in
theorem Socket_any (n : Int) (l : List Cpu) (hl : l.length ≤ 64) (B p : Nat) (w : World) (hB : B ≤ w.heap.size) (hp : p < B) (hT : TopoAt w (· < B) p l) :
    Calls Try.prog 14 #[.pointer (some ⟨p, 0, none⟩), .int .i64 n] w (RetU (wh (fun c => c.socket == n) l l.length) w) := by
  have hal : Below w.heap.size w (w.alloc (.cells #[.int .i64 n] 3)) := (Below.refl _ _).alloc (Nat.le_refl _) _
  have hb0 := Blk.new w 3 #[.int .i64 n]
  have h := which_any l hl (fun c => c.socket == n) 37 #[.pointer (some ⟨w.heap.size, 0, none⟩)] B p (w.alloc (.cells #[.int .i64 n] 3)) (by simp; omega) (hT.below (hal.mono hB) hp) (enters_of Try.func37 (by kernel_rfl) rfl) (fun c W _ hW => by
    obtain ⟨c0, c1, c2⟩ := c
    unfold Cpu.val
    have hb := (hb0.below hW hb0.lt)
    have e0 := hb.cells
    have l0 := hb.lt
    dsimp only
    simp only [List.append_toArray, List.cons_append, List.nil_append]
    clear hT hal hb0 hW hb
    go_enter Try.func37, Try.ntmps37
    go_wp2_with fail
    go_ret
    exact ⟨by congr 1, (Below.refl _ _).alloc (Nat.le_refl _) _⟩)
  have H := Lib.hid h
  clear h hT hb0
  go_enter Try.func14, Try.ntmps14
  go_wp2_with fail
  refine H.out.mono ?_
  rintro e w1 ⟨rfl, hb1⟩
  go_wp2_with fail
  go_ret
  exact ⟨rfl, hal.trans (hb1.mono (by simp))⟩
set_option maxHeartbeats 2000000 in
theorem On_any (m : Nat) (hm : m < 256) (l : List Cpu) (hl : l.length ≤ 64) (B p : Nat) (w : World) (hB : B ≤ w.heap.size) (hp : p < B) (hT : TopoAt w (· < B) p l) (hn : ∀ c, c ∈ l → 0 ≤ c.node ∧ c.node ≤ 3) :
    Calls Try.prog 15 #[.pointer (some ⟨p, 0, none⟩), .int .u8 m] w (RetU (wh (fun c => onB m c) l l.length) w) := by
  have hal : Below w.heap.size w (w.alloc (.cells #[.int .u8 m] 22)) := (Below.refl _ _).alloc (Nat.le_refl _) _
  have hb0 := Blk.new w 22 #[.int .u8 m]
  have h := which_any l hl (fun c => onB m c) 38 #[.pointer (some ⟨w.heap.size, 0, none⟩)] B p (w.alloc (.cells #[.int .u8 m] 22)) (by simp; omega) (hT.below (hal.mono hB) hp) (enters_of Try.func38 (by kernel_rfl) rfl) (fun c W hcl hW => by
    have hcn := hn c hcl
    obtain ⟨c0, c1, c2⟩ := c
    obtain ⟨q, rfl⟩ : ∃ q : Nat, c2 = (q : Int) := ⟨c2.toNat, by dsimp only at hcn; omega⟩
    dsimp only at hcn
    have hbq := u8_bitp m q hm
    have h01 := bit_01 m q
    have HON := Lib.hid (show onB m ⟨c0, c1, q⟩ = (Pop.bit m q == 1) from rfl)
    clear hn hcl
    unfold Cpu.val
    have hb := (hb0.below hW hb0.lt)
    have e0 := hb.cells
    have l0 := hb.lt
    dsimp only
    simp only [List.append_toArray, List.cons_append, List.nil_append]
    clear hT hal hb0 hW hb
    go_enter Try.func38, Try.ntmps38
    generalize Pop.bit m q = bq at *
    go_wp2_with fail
    go_ret
    exact ⟨by rw [HON.out]; show Ending.returned (Value.bool (((bq : Nat) : Int) == 1)) = Ending.returned (Value.bool (bq == 1)); rw [show (((bq : Nat) : Int) == 1) = (bq == 1) by rw [Bool.eq_iff_iff, beq_iff_eq, beq_iff_eq]; omega], (Below.refl _ _).alloc (Nat.le_refl _) _⟩)
  have H := Lib.hid h
  clear h hT hb0
  go_enter Try.func15, Try.ntmps15
  go_wp2_with fail
  refine H.out.mono ?_
  rintro e w1 ⟨rfl, hb1⟩
  go_wp2_with fail
  go_ret
  exact ⟨rfl, hal.trans (hb1.mono (by simp))⟩
end
end Go.Proofs.Yticmfflnenoplab
