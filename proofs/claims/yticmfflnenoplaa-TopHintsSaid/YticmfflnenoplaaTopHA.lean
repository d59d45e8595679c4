/- TopHints: its small functions (over, small), and what is said of the hints, as plain data. -/
import Derived.Test.YticmfflnenoplaaHintsG
namespace Go.Proofs.Yticmfflnenoplaa
open Go.RowKit Mk

def PosSmall (l : A4) : Prop := (0 ≤ l.a0 ∧ l.a0 ≤ 1000000) ∧ (0 ≤ l.a1 ∧ l.a1 ≤ 1000000) ∧ (0 ≤ l.a2 ∧ l.a2 ≤ 1000000) ∧ (0 ≤ l.a3 ∧ l.a3 ≤ 1000000)
theorem PosSmall.small {l : A4} (h : PosSmall l) : l.Small := by
  obtain ⟨h0, h1, h2, h3⟩ := h
  exact ⟨⟨by omega, h0.2⟩, ⟨by omega, h1.2⟩, ⟨by omega, h2.2⟩, ⟨by omega, h3.2⟩⟩

set_option maxHeartbeats 1000000 in
theorem tover_any (m : Nat) (hm : m < 256) (l : A4) (hl : l.Small) (w : World) :
    Calls Try.prog 90 #[.int .u8 m, l.val] w fun e w' => e = .returned (.int .i64 (over m l)) ∧ Below w.heap.size w w' := by
  obtain ⟨a0, a1, a2, a3⟩ := l
  unfold A4.val
  dsimp only
  go_enter Try.func90, Try.ntmps90
  go_wp2_with fail
  have hblk := (Blk.new w 75 #[.int .i64 a0, .int .i64 a1, .int .i64 a2, .int .i64 a3])
  go_loop [5, 6] (fun s i => ∃ k : Nat, i = .int .i64 k ∧ k ≤ 4 ∧ s = .int .i64 (psum m ⟨a0, a1, a2, a3⟩ k)) (fun _ i => 4 - (intOf i).toNat)
  case atStart => exact ⟨0, rfl, by omega, rfl⟩
  case round =>
    obtain ⟨k, rfl, hk, rfl⟩ := hrel
    by_cases hlt : k < 4
    · have hb := u8_bit m k hm
      have hp := psum_small hl m k hk
      have hg := get_small hl k
      have hcell : (w.alloc (.cells #[.int .i64 a0, .int .i64 a1, .int .i64 a2, .int .i64 a3] 75)).cell? ⟨w.heap.size, k, none⟩ = some (.int .i64 (A4.get ⟨a0, a1, a2, a3⟩ k)) := by
        rw [hblk.cell k]
        rcases (show k = 0 ∨ k = 1 ∨ k = 2 ∨ k = 3 by omega) with rfl | rfl | rfl | rfl <;> rfl
      have hnx := Lib.hid (show psum m ⟨a0, a1, a2, a3⟩ (k + 1) = psum m ⟨a0, a1, a2, a3⟩ k + (if bt m k = 1 then A4.get ⟨a0, a1, a2, a3⟩ k else 0) from rfl)
      clear hblk
      generalize A4.get ⟨a0, a1, a2, a3⟩ k = g at *
      generalize psum m ⟨a0, a1, a2, a3⟩ k = p at *
      rcases bt_01 m k with hz | hz
      · rw [hz] at hb hnx
        clear hz
        go_wp2_with fail
        go_round
        case rel => exact ⟨k + 1, by go_num, by omega, by rw [hnx.out]; simp⟩
        case measure => simp [intOf]; omega
      · rw [hz] at hb hnx
        clear hz
        go_wp2_with fail
        go_round
        case rel => exact ⟨k + 1, by go_num, by omega, by rw [hnx.out]; simp⟩
        case measure => simp [intOf]; omega
    · obtain rfl : k = 4 := by omega
      go_wp2_with fail
      go_ret
      exact ⟨rfl, (Below.refl _ _).alloc (Nat.le_refl _) _⟩

set_option maxHeartbeats 2000000 in
theorem tsmall_yes (l : A4) (w : World) (hl : PosSmall l) : Calls Try.prog 89 #[l.val] w (RetBB true w) := by
  obtain ⟨a0, a1, a2, a3⟩ := l
  obtain ⟨h0, h1, h2, h3⟩ := hl
  dsimp only at h0 h1 h2 h3
  unfold A4.val
  dsimp only
  go_enter Try.func89, Try.ntmps89
  go_wp2_with fail
  have hblk := (Blk.new w 75 #[.int .i64 a0, .int .i64 a1, .int .i64 a2, .int .i64 a3])
  go_loop [3] (fun i => ∃ k : Nat, i = .int .i64 k ∧ k ≤ 4) (fun i => 4 - (intOf i).toNat)
  case atStart => exact ⟨0, rfl, by omega⟩
  case round =>
    obtain ⟨k, rfl, hk⟩ := hrel
    by_cases hlt : k < 4
    · obtain ⟨x, hx, hx1, hx2⟩ : ∃ x : Int, (w.alloc (.cells #[.int .i64 a0, .int .i64 a1, .int .i64 a2, .int .i64 a3] 75)).cell? ⟨w.heap.size, k, none⟩ = some (.int .i64 x) ∧ 0 ≤ x ∧ x ≤ 1000000 := by
        rw [hblk.cell k]
        rcases (show k = 0 ∨ k = 1 ∨ k = 2 ∨ k = 3 by omega) with rfl | rfl | rfl | rfl
        · exact ⟨a0, rfl, h0⟩
        · exact ⟨a1, rfl, h1⟩
        · exact ⟨a2, rfl, h2⟩
        · exact ⟨a3, rfl, h3⟩
      clear hblk h0 h1 h2 h3
      go_wp2_with fail
      go_round
      case rel => exact ⟨k + 1, by go_num, by omega⟩
      case measure => simp [intOf]; omega
    · obtain rfl : k = 4 := by omega
      go_wp2_with fail
      go_ret
      exact ⟨rfl, (Below.refl _ _).alloc (Nat.le_refl _) _⟩
set_option maxHeartbeats 2000000 in
theorem tsmall_no (l : A4) (w : World) (hw : A4.Wf l) (hl : ¬ PosSmall l) : Calls Try.prog 89 #[l.val] w (RetBB false w) := by
  have hall : ¬ ∀ k, k < 4 → 0 ≤ l.get k ∧ l.get k ≤ 1000000 := fun h => hl ⟨h 0 (by omega), h 1 (by omega), h 2 (by omega), h 3 (by omega)⟩
  have HALL := Lib.hid hall
  have HW := Lib.hid hw
  clear hall hl hw
  obtain ⟨a0, a1, a2, a3⟩ := l
  unfold A4.val
  dsimp only
  go_enter Try.func89, Try.ntmps89
  go_wp2_with fail
  have hblk := (Blk.new w 75 #[.int .i64 a0, .int .i64 a1, .int .i64 a2, .int .i64 a3])
  go_loop [3] (fun i => ∃ k : Nat, i = .int .i64 k ∧ k ≤ 4 ∧ Hid (∀ j, j < k → 0 ≤ A4.get ⟨a0, a1, a2, a3⟩ j ∧ A4.get ⟨a0, a1, a2, a3⟩ j ≤ 1000000)) (fun i => 4 - (intOf i).toNat)
  case atStart => exact ⟨0, rfl, by omega, fun j hj => by omega⟩
  case round =>
    obtain ⟨k, rfl, hk, hrg⟩ := hrel
    by_cases hlt : k < 4
    · obtain ⟨x, hx, hx0⟩ : ∃ x : Int, (w.alloc (.cells #[.int .i64 a0, .int .i64 a1, .int .i64 a2, .int .i64 a3] 75)).cell? ⟨w.heap.size, k, none⟩ = some (.int .i64 x) ∧ A4.get ⟨a0, a1, a2, a3⟩ k = x := by
        rw [hblk.cell k]
        rcases (show k = 0 ∨ k = 1 ∨ k = 2 ∨ k = 3 by omega) with rfl | rfl | rfl | rfl <;> exact ⟨_, rfl, rfl⟩
      have hxw := HW.out k hlt
      rw [hx0] at hxw
      have HX := Lib.hid hx0
      clear hblk hx0
      by_cases hlo : x < 0
      · go_wp2_with fail
        go_ret
        exact ⟨rfl, (Below.refl _ _).alloc (Nat.le_refl _) _⟩
      · by_cases hhi : 1000000 < x
        · go_wp2_with fail
          go_ret
          exact ⟨rfl, (Below.refl _ _).alloc (Nat.le_refl _) _⟩
        · go_wp2_with fail
          go_round
          case rel =>
            refine ⟨k + 1, by go_num, by omega, fun j hj => ?_⟩
            by_cases he : j = k
            · subst he; rw [HX.out]; omega
            · exact hrg.out j (by omega)
          case measure => simp [intOf]; omega
    · obtain rfl : k = 4 := by omega
      exact (HALL.out hrg.out).elim


/-! ### What is said of the hints. -/
theorem masks_mem (free : A4) (n : Nat) (many : Int) (k m : Nat) : m ∈ masks free n many k ↔ m < k ∧ condA free n many m = true := by
  refine ⟨fun h => masks_lt free n many k m h, ?_⟩
  induction k with
  | zero => rintro ⟨h, _⟩; omega
  | succ k ih =>
    rintro ⟨h1, h2⟩
    simp only [masks, List.mem_append]
    by_cases he : m = k
    · subst he; right; simp [h2]
    · exact .inl (ih ⟨by omega, h2⟩)
theorem masks_nodup (free : A4) (n : Nat) (many : Int) (k : Nat) : (masks free n many k).Nodup := by
  induction k with
  | zero => simp [masks]
  | succ k ih =>
    simp only [masks]
    rw [List.nodup_append]
    refine ⟨ih, by split <;> simp, fun x hx y hy => ?_⟩
    have := (masks_lt free n many k x hx).1
    split at hy
    · simp at hy; omega
    · simp at hy
/-- Is a mask one of the first i hints'? -/
def thr (l : List Hint) (i m : Nat) : Bool := (l.take i).any fun h => h.mask == m
def thArr (l : List Hint) (i : Nat) : Array Value := ((List.range 16).map fun m => Value.bool (thr l i m)).toArray
theorem thArr_zero (l : List Hint) : thArr l 0 = #[.bool false, .bool false, .bool false, .bool false, .bool false, .bool false, .bool false, .bool false, .bool false, .bool false, .bool false, .bool false, .bool false, .bool false, .bool false, .bool false] := by
  simp [thArr, thr, List.range_succ]
theorem thArr_at (l : List Hint) (i m : Nat) (h : m < 16) : (thArr l i)[m]? = some (.bool (thr l i m)) := by
  simp [thArr, h]
theorem thArr_next (l : List Hint) (i : Nat) (hi : i < l.length) : (thArr l i).setIfInBounds l[i].mask (.bool true) = thArr l (i + 1) := by
  apply Array.ext (by simp [thArr])
  intro m h1 h2
  have hm : m < 16 := by simpa [thArr] using h2
  have hs : thr l (i + 1) m = (thr l i m || l[i].mask == m) := by
    unfold thr
    rw [List.take_succ_eq_append_getElem hi, List.any_append]
    simp
  by_cases he : l[i].mask = m
  · simp [thArr, he, hs]
  · simp [thArr, he, hs]
structure HOk (free all : A4) (n : Nat) (many : Int) (l : List Hint) : Prop where
  lt : ∀ i (h : i < l.length), 1 ≤ l[i].mask ∧ l[i].mask ≤ 15 ∧ sub l[i].mask n = true ∧ many ≤ over l[i].mask free
  apart : ∀ i (h : i < l.length), thr l i l[i].mask = false
  good : ∀ i (h : i < l.length), l[i].good = true → ∀ k, k < 16 → sub k n = true → many ≤ over k all → nodes l[i].mask ≤ nodes k
  all : ∀ m, m < 16 → sub m n = true → thr l l.length m = decide (many ≤ over m free)
theorem hok (free all : A4) (n : Nat) (hn : n < 16) (many : Int) (hm : 0 < many) : HOk free all n many (hintsOf free all n many) := by
  have hmem : ∀ i (h : i < (hintsOf free all n many).length), ∃ k, k ∈ masks free n many 256 ∧ (hintsOf free all n many)[i] = ⟨k, goodR all n many k⟩ ∧ (masks free n many 256)[i]'(by simpa [hintsOf] using h) = k := by
    intro i h
    refine ⟨(masks free n many 256)[i]'(by simpa [hintsOf] using h), List.getElem_mem _, by simp [hintsOf], rfl⟩
  have h0 : condA free n many 0 = false := by
    have : over 0 free = 0 := by simp [over, psum, bt]
    have h : ¬ many ≤ 0 := by omega
    simp [condA, this, h]
  refine ⟨fun i h => ?_, fun i h => ?_, fun i h hg k hk hs hm => ?_, fun m hm hs => ?_⟩
  · obtain ⟨k, hk, he, _⟩ := hmem i h
    rw [he]
    obtain ⟨h1, h2⟩ := masks_lt free n many 256 k hk
    have hkz : k ≠ 0 := fun hz => by rw [hz, h0] at h2; cases h2
    simp only [condA, Bool.and_eq_true, decide_eq_true_eq] at h2
    have := (sub_le ⟨n, hn⟩ ⟨k, h1⟩ h2.1).1
    simp only at this
    exact ⟨(by omega : 1 ≤ k), (by omega : k ≤ 15), h2.1, h2.2⟩
  · obtain ⟨k, hk, he, hk2⟩ := hmem i h
    rw [he]
    unfold thr
    rw [List.any_eq_false]
    intro x hx
    obtain ⟨j, hj, rfl⟩ := List.mem_iff_getElem.1 hx
    have hj2 : j < i := by simp at hj; omega
    have hj3 : j < (hintsOf free all n many).length := by omega
    obtain ⟨k', _, he', hk2'⟩ := hmem j hj3
    rw [List.getElem_take, he']
    simp only [beq_iff_eq]
    intro hkk
    have hp : List.Pairwise (fun a b => a ≠ b) (masks free n many 256) := masks_nodup free n many 256
    exact List.pairwise_iff_getElem.1 hp j i (by simpa [hintsOf] using hj3) (by simpa [hintsOf] using h) hj2 (hk2'.trans (hkk.trans hk2.symm))
  · obtain ⟨k', hk', he, _⟩ := hmem i h
    rw [he] at hg ⊢
    dsimp only at hg ⊢
    unfold goodR at hg
    rw [Bool.and_eq_true] at hg
    have := (gscan_iff all n many k' 256).1 hg.1 k (by omega) (by simp [condA, hs, hm])
    omega
  · unfold thr
    rw [List.take_length, Bool.eq_iff_iff, List.any_eq_true, decide_eq_true_iff]
    constructor
    · rintro ⟨x, hx, hxm⟩
      obtain ⟨i, hi, rfl⟩ := List.mem_iff_getElem.1 hx
      obtain ⟨k, hk, he, _⟩ := hmem i hi
      rw [he] at hxm
      simp only [beq_iff_eq] at hxm
      subst hxm
      have h2 := (masks_lt free n many 256 k hk).2
      simp only [condA, Bool.and_eq_true, decide_eq_true_eq] at h2
      exact h2.2
    · intro h
      have : m ∈ masks free n many 256 := (masks_mem free n many 256 m).2 ⟨by omega, by simp [condA, hs, h]⟩
      exact ⟨⟨m, goodR all n many m⟩, List.mem_map.2 ⟨m, this, rfl⟩, by simp⟩
end Go.Proofs.Yticmfflnenoplaa
