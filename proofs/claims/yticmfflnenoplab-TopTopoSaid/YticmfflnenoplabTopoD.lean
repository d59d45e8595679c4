/- topo: Of, Nodes, Count: their walks. -/
import Derived.Test.YticmfflnenoplabTopoB
import Derived.Test.YticmfflnenoplabPopB
namespace Go.Proofs.Yticmfflnenoplab
open Go.RowKit Tp
def zeroCpu : Cpu := ⟨0, 0, 0⟩
def OfPost (l : List Cpu) (n : Int) (w : World) (e : Ending) (w' : World) : Prop :=
  Below w.heap.size w w' ∧ ∃ c : Cpu, ∃ k : Int, e = .returned (.tuple #[c.val, errV k]) ∧ ((n < 0 ∨ (l.length : Int) ≤ n) → c = zeroCpu ∧ k = 1) ∧ (∀ i : Nat, n = (i : Int) → ∀ h : i < l.length, c = l[i] ∧ k = 0)
def nods (l : List Cpu) : Nat → Nat
  | 0 => 0
  | k + 1 => nods l k ||| (match l[k]? with | some c => 2 ^ c.node.toNat | none => 0)
theorem nods_next (l : List Cpu) (k : Nat) (h : k < l.length) : nods l (k + 1) = nods l k ||| 2 ^ l[k].node.toNat := by
  simp [nods, List.getElem?_eq_getElem h]
theorem nods_zero (l : List Cpu) : nods l 0 = 0 := rfl
theorem pow16n (k : Nat) (h : k ≤ 3) : 2 ^ k < 16 := by
  rcases (show k = 0 ∨ k = 1 ∨ k = 2 ∨ k = 3 by omega) with rfl | rfl | rfl | rfl <;> decide
theorem nods_lt (l : List Cpu) (hn : ∀ c, c ∈ l → 0 ≤ c.node ∧ c.node ≤ 3) (k : Nat) : nods l k < 16 := by
  induction k with
  | zero => simp [nods]
  | succ k ih =>
    simp only [nods]
    refine Nat.or_lt_two_pow (n := 4) ih ?_
    split
    · rename_i c hc
      obtain ⟨h, rfl⟩ := List.getElem?_eq_some_iff.1 hc
      have := hn _ (List.getElem_mem h)
      exact pow16n _ (by omega)
    · decide
theorem shl8 (n : Nat) (h : n ≤ 3) : (2 : Int) ^ n % 256 = ((2 ^ n : Nat) : Int) := by
  rcases (show n = 0 ∨ n = 1 ∨ n = 2 ∨ n = 3 by omega) with rfl | rfl | rfl | rfl <;> decide
section
attribute [local irreducible] nods
set_option maxHeartbeats 1000000 in
theorem Nodes_any (l : List Cpu) (B p : Nat) (w : World) (hB : B ≤ w.heap.size) (hT : TopoAt w (· < B) p l) (hnd : ∀ c, c ∈ l → 0 ≤ c.node ∧ c.node ≤ 3) :
    Calls Try.prog 16 #[.pointer (some ⟨p, 0, none⟩)] w fun e w' => e = .returned (.int .u8 (nods l l.length)) ∧ Below w.heap.size w w' := by
  obtain ⟨v, h1, h2⟩ := hT
  obtain ⟨A, c, e, hc1, hc2, hA⟩ := h2.form
  obtain rfl : v = _ := by simpa using e
  unfold maxLen at hc2
  have e1 := h1.cells
  have HA := Lib.hid hA
  have HR := Lib.hid h2
  have HD := Lib.hid hnd
  have hlt := h1.lt
  clear hA h2 e hnd
  go_enter Try.func16, Try.ntmps16
  go_upto_region 3 with fail
  go_loopw [3, 11] (fun s i wr => ∃ n : Nat, i = .int .i64 n ∧ n ≤ l.length ∧ s = .int .u8 (nods l n) ∧ Below w.heap.size w wr) (fun _ i _ => l.length - (intOf i).toNat)
  case atStart => exact ⟨0, rfl, by omega, by rw [nods_zero]; rfl, Below.refl _ _⟩
  case round =>
    obtain ⟨n, rfl, hn, rfl, hbel⟩ := hrel
    by_cases hl : n < l.length
    · obtain ⟨b, off, rfl, hb⟩ := HA.out n hl
      obtain ⟨_, cs', q1, q2, q3, q4⟩ := HR.out.at_ hl
      have r0 := (hbel.cell (p := ⟨b, off + n * 3 + 0, none⟩) (by dsimp only; omega)).trans (q2 0 _ (by rw [q3]; rfl))
      have r1 := (hbel.cell (p := ⟨b, off + n * 3 + 1, none⟩) (by dsimp only; omega)).trans (q2 1 _ (by rw [q3]; rfl))
      have r2 := (hbel.cell (p := ⟨b, off + n * 3 + 2, none⟩) (by dsimp only; omega)).trans (q2 2 _ (by rw [q3]; rfl))
      rw [Nat.add_zero] at r0
      have hnx := Lib.hid (nods_next l n hl)
      have hd := HD.out _ (List.getElem_mem hl)
      have hlt2 := nods_lt l HD.out n
      generalize l[n] = x at *
      obtain ⟨x0, x1, x2⟩ := x
      dsimp only at r0 r1 r2 hd
      obtain ⟨q, rfl⟩ : ∃ q : Nat, x2 = (q : Int) := ⟨x2.toNat, by omega⟩
      have HSH := Lib.hid (shl8 q (by omega))
      have HOR := Lib.hid (u8_or_nat (nods l n) (2 ^ q) (by omega) (by have := pow16n q (by omega); omega))
      clear q1 q2 q3 q4
      go_wp2_with fail
      go_roundw
      case rel => exact ⟨n + 1, by go_num, by omega, by rw [hnx.out, HSH.out, HOR.out]; rfl, hbel.alloc hbel.size _⟩
      case measure => simp [intOf]; omega
    · obtain rfl : n = l.length := by omega
      go_wp2_with fail
      go_ret
      exact ⟨rfl, hbel⟩
end
theorem wh_congr (f g : Cpu → Bool) (l : List Cpu) (h : ∀ c, c ∈ l → f c = g c) (k : Nat) : wh f l k = wh g l k := by
  induction k with
  | zero => rfl
  | succ k ih =>
    simp only [wh]
    rw [ih]
    cases hk : l[k]? with
    | none => rfl
    | some c =>
      obtain ⟨h1, rfl⟩ := List.getElem?_eq_some_iff.1 hk
      have hh := h _ (List.getElem_mem h1)
      simp only [Option.any_some, hh]
theorem onB_pow (q : Nat) (c : Cpu) (h : 0 ≤ c.node) : onB (2 ^ q) c = (c.node == (q : Int)) := by
  unfold onB
  rw [bit_of, Nat.testBit_two_pow]
  by_cases he : c.node = (q : Int)
  · rw [he]; simp
  · have : ¬ q = c.node.toNat := by omega
    have h2 : (c.node == (q : Int)) = false := by simpa using he
    rw [h2]
    simp [this]
theorem cnt_on (l : List Cpu) (s q : Nat) (hl : l.length ≤ 64) (hn : ∀ c, c ∈ l → 0 ≤ c.node ∧ c.node ≤ 3) : Pop.cnt (s &&& wh (fun c => onB (2 ^ q) c) l l.length) 64 = cntOn l s q l.length := by
  rw [wh_congr _ (fun c => c.node == (q : Int)) l (fun c hc => onB_pow q c (hn c hc).1), cnt_and, Nat.min_eq_right hl]
def cells4 (f : Nat → Int) (k : Nat) : Array Value := #[.int .i64 (if 0 < k then f 0 else 0), .int .i64 (if 1 < k then f 1 else 0), .int .i64 (if 2 < k then f 2 else 0), .int .i64 (if 3 < k then f 3 else 0)]
theorem cells4_zero (f : Nat → Int) : cells4 f 0 = #[.int .i64 0, .int .i64 0, .int .i64 0, .int .i64 0] := rfl
theorem cells4_next (f : Nat → Int) (k : Nat) (h : k < 4) : (cells4 f k).setIfInBounds k (.int .i64 (f k)) = cells4 f (k + 1) := by
  rcases (show k = 0 ∨ k = 1 ∨ k = 2 ∨ k = 3 by omega) with rfl | rfl | rfl | rfl <;> rfl
theorem cells4_at (f : Nat → Int) (k : Nat) (h : k < 4) : (cells4 f k)[k]? = some (.int .i64 0) := by
  rcases (show k = 0 ∨ k = 1 ∨ k = 2 ∨ k = 3 by omega) with rfl | rfl | rfl | rfl <;> rfl
theorem cells4_four (f : Nat → Int) : cells4 f 4 = #[.int .i64 (f 0), .int .i64 (f 1), .int .i64 (f 2), .int .i64 (f 3)] := rfl
def cntsV (l : List Cpu) (s : Nat) : Value := .agg #[.int .i64 (cntOn l s 0 l.length), .int .i64 (cntOn l s 1 l.length), .int .i64 (cntOn l s 2 l.length), .int .i64 (cntOn l s 3 l.length)]
section
attribute [local irreducible] cntOn wh onB cells4 Pop.cnt
end
end Go.Proofs.Yticmfflnenoplab
