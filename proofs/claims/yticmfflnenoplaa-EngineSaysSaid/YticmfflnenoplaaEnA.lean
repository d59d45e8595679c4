/- Containers that run, as plain data; the engine in memory; where a container stands. No statement is proved here. -/
import Derived.Test.YticmfflnenoplaaInsB
import Derived.Test.YticmfflnenoplaaDiskX
import Derived.Test.YticmfflnenoplaaSl
namespace Go.Proofs.Yticmfflnenoplaa
open Go.RowKit
namespace En
structure Run where
  pod : ByteArray
  cont : ByteArray
  cpus : Int
  devs : List Int
  dA : Option Addr
  dc : Nat
def Run.dv (r : Run) : Value := .slice r.dA r.devs.length r.dc
def Run.cells (r : Run) : List Value := [.string r.pod, .string r.cont, .int .u64 r.cpus, .slice r.dA r.devs.length r.dc]
def flatR (l : List Run) : List Value := l.flatMap Run.cells
def isK (r : Run) (p c : ByteArray) : Bool := (r.pod.toList == p.toList) && (r.cont.toList == c.toList)
def gtS (a b : ByteArray) : Bool := !(Op.bytesLess a.toList b.toList || a.toList == b.toList)
def gtK (r : Run) (p c : ByteArray) : Bool := gtS r.pod p || ((r.pod.toList == p.toList) && gtS r.cont c)
/-- Where a container stands, or would; is it there? -/
def atK (p c : ByteArray) : List Run → Nat × Bool
  | [] => (0, false)
  | r :: l => if isK r p c then (0, true) else if gtK r p c then (0, false) else ((atK p c l).1 + 1, (atK p c l).2)
theorem atK_skip (p c : ByteArray) (l : List Run) (k : Nat) (hk : k ≤ l.length) (h : ∀ j (hj : j < l.length), j < k → isK l[j] p c = false ∧ gtK l[j] p c = false) : atK p c l = ((atK p c (l.drop k)).1 + k, (atK p c (l.drop k)).2) := by
  induction k generalizing l with
  | zero => simp
  | succ k ih =>
    cases l with
    | nil => simp at hk
    | cons r l =>
      obtain ⟨h1, h2⟩ := h 0 (by simp) (by omega)
      simp only [List.getElem_cons_zero] at h1 h2
      have := ih l (by simpa using hk) (fun j hj hjk => h (j + 1) (by simp; omega) (by omega))
      simp only [atK, h1, h2, List.drop_succ_cons]
      rw [this]
      simp
      omega
theorem atK_hit (p c : ByteArray) (l : List Run) (k : Nat) (hk : k < l.length) (h : ∀ j (hj : j < l.length), j < k → isK l[j] p c = false ∧ gtK l[j] p c = false) (h1 : isK l[k] p c = true) : atK p c l = (k, true) := by
  rw [atK_skip p c l k (by omega) h, List.drop_eq_getElem_cons hk]
  simp [atK, h1]
theorem atK_past (p c : ByteArray) (l : List Run) (k : Nat) (hk : k < l.length) (h : ∀ j (hj : j < l.length), j < k → isK l[j] p c = false ∧ gtK l[j] p c = false) (h1 : isK l[k] p c = false) (h2 : gtK l[k] p c = true) : atK p c l = (k, false) := by
  rw [atK_skip p c l k (by omega) h, List.drop_eq_getElem_cons hk]
  simp [atK, h1, h2]
theorem atK_end (p c : ByteArray) (l : List Run) (h : ∀ j (hj : j < l.length), isK l[j] p c = false ∧ gtK l[j] p c = false) : atK p c l = (l.length, false) := by
  rw [atK_skip p c l l.length (by omega) (fun j hj _ => h j hj)]
  simp [atK]
theorem atK_le (p c : ByteArray) (l : List Run) : (atK p c l).1 ≤ l.length ∧ ((atK p c l).2 = true → (atK p c l).1 < l.length) := by
  induction l with
  | nil => simp [atK]
  | cons r l ih =>
    simp only [atK]
    split
    · simp
    · split
      · simp
      · simp only [List.length_cons]
        exact ⟨by omega, fun h => by have := ih.2 h; omega⟩
theorem flatR_len (l : List Run) : (flatR l).length = l.length * 4 := by
  induction l with
  | nil => rfl
  | cons r l ih => simp only [flatR, List.flatMap_cons, List.length_append, List.length_cons] at ih ⊢; rw [ih]; simp [Run.cells]; omega
theorem flatR_one (l : List Run) : ∀ u ∈ flatR l, u.oneCell' = true := by
  intro u hu
  obtain ⟨r, _, hr⟩ := List.mem_flatMap.1 hu
  simp [Run.cells] at hr
  rcases hr with rfl | rfl | rfl | rfl <;> rfl
theorem flatR_at (l : List Run) (i : Nat) (hi : i < l.length) (j : Nat) (hj : j < 4) : (flatR l)[i * 4 + j]? = (Run.cells l[i])[j]? :=
  flatMap_at (C := 4) l (fun _ _ => rfl) i hi j hj
theorem flatR_take (l : List Run) (i : Nat) (hi : i ≤ l.length) : (flatR l).take (i * 4) = flatR (l.take i) := by
  conv => lhs; rw [← List.take_append_drop i l]
  unfold flatR
  rw [List.flatMap_append]
  exact List.take_left' (by have := flatR_len (l.take i); unfold flatR at this; rw [this]; simp; omega)
theorem flatR_drop (l : List Run) (i : Nat) (hi : i ≤ l.length) : (flatR l).drop (i * 4) = flatR (l.drop i) := by
  conv => lhs; rw [← List.take_append_drop i l]
  unfold flatR
  rw [List.flatMap_append]
  exact List.drop_left' (by have := flatR_len (l.take i); unfold flatR at this; rw [this]; simp; omega)
theorem flatR_ins (l : List Run) (i : Nat) (hi : i ≤ l.length) (r : Run) : (flatR l).take (i * 4) ++ (Run.cells r ++ (flatR l).drop (i * 4)) = flatR (l.take i ++ r :: l.drop i) := by
  rw [flatR_take l i hi, flatR_drop l i hi]
  simp [flatR]
theorem flatR_del (l : List Run) (i : Nat) (hi : i < l.length) : (flatR l).take (i * 4) ++ (flatR l).drop ((i + 1) * 4) = flatR (l.take i ++ l.drop (i + 1)) := by
  rw [flatR_take l i (by omega), flatR_drop l (i + 1) (by omega)]
  simp [flatR]
def intsV (l : List Int) : List Value := l.map (Value.int .i64)
/-- The engine at block be, of the disk at bd; what it has lies in blocks from base on. -/
structure Is (w : World) (base be bd : Nat) (v : Value) (l : List Run) : Prop where
  blk : Blk w be 194 #[.pointer (some ⟨bd, 0, none⟩), v]
  row : w.ownsRow base 117 4 v l.length (flatR l)
  devs : ∀ r ∈ l, w.ownsRow base 3 1 (.slice r.dA r.devs.length r.dc) r.devs.length (intsV r.devs)
  len : l.length ≤ 10000
theorem Is.kept {w w' : World} {base be bd : Nat} {v : Value} {l : List Run} {S : Nat → Prop} (h : Is w base be bd v l) (hk : Kept S w w') (hb : ¬ S be) (hv : ∀ g, v.ownBlock = some g → ¬ S g) (hd : ∀ r ∈ l, ∀ g, (Value.slice r.dA r.devs.length r.dc).ownBlock = some g → ¬ S g) : Is w' base be bd v l :=
  ⟨h.blk.kept hk hb, own_kept h.row hk hv, fun r hr => own_kept (h.devs r hr) hk (hd r hr), h.len⟩
theorem Is.below {w w' : World} {base be bd : Nat} {v : Value} {l : List Run} (h : Is w base be bd v l) (hb : Below w.heap.size w w') : Is w' base be bd v l :=
  h.kept (S := fun _ => False) (Kept.of_below hb) (fun h => h) (fun _ _ h => h) (fun _ _ _ _ h => h)
end En
open En
section
set_option maxRecDepth 100000 in
set_option maxHeartbeats 1000000 in
theorem at_any (base be bd : Nat) (v : Value) (l : List En.Run) (p c : ByteArray) (w : World) (h : En.Is w base be bd v l) :
    Calls Try.prog 131 #[.pointer (some ⟨be, 0, none⟩), .string p, .string c] w (fun e w' => e = .returned (.tuple #[.int .i64 (En.atK p c l).1, .bool (En.atK p c l).2]) ∧ Below w.heap.size w w') := by
  have hb := h.blk
  have hc := hb.cells
  have hbl := hb.lt
  have hlen := h.len
  obtain ⟨A, cap, rfl, q1, q2, q3⟩ := own_form h.row
  unfold maxLen at q2
  have HR := Lib.hid h.row
  have HQ := Lib.hid q3
  clear h q3
  go_enter Try.func131, Try.ntmps131
  go_wp2_with fail
  go_loopw [15] (fun i wi => ∃ k : Nat, i = .int .i64 k ∧ k ≤ l.length ∧ Below w.heap.size w wi ∧ Hid (∀ j (hj : j < l.length), j < k → En.isK l[j] p c = false ∧ En.gtK l[j] p c = false)) (fun i _ => l.length - (intOf i).toNat)
  case atStart => exact ⟨0, rfl, by omega, Below.refl _ _, Lib.hid (fun j hj h => by omega)⟩
  case round =>
    obtain ⟨k, rfl, hk, hbi, HN⟩ := hrel
    by_cases hlt : k < l.length
    · obtain ⟨g, rfl, hg, _⟩ := HQ.out (by omega)
      have r0 := (hbi.cell (p := ⟨g, k * 4, none⟩) hg).trans ((HR.out.cellAt (k * 4 + 0) (by omega)).trans (En.flatR_at l k hlt 0 (by omega)))
      have r1 := (hbi.cell (p := ⟨g, k * 4 + 1, none⟩) hg).trans ((HR.out.cellAt (k * 4 + 1) (by omega)).trans (En.flatR_at l k hlt 1 (by omega)))
      have r2 := (hbi.cell (p := ⟨g, k * 4 + 2, none⟩) hg).trans ((HR.out.cellAt (k * 4 + 2) (by omega)).trans (En.flatR_at l k hlt 2 (by omega)))
      have r3 := (hbi.cell (p := ⟨g, k * 4 + 3, none⟩) hg).trans ((HR.out.cellAt (k * 4 + 3) (by omega)).trans (En.flatR_at l k hlt 3 (by omega)))
      have HH := Lib.hid (En.atK_hit p c l k hlt HN.out)
      have HP := Lib.hid (En.atK_past p c l k hlt HN.out)
      have HS : Hid (En.isK l[k] p c = false → En.gtK l[k] p c = false → ∀ j (hj : j < l.length), j < k + 1 → En.isK l[j] p c = false ∧ En.gtK l[j] p c = false) := Lib.hid (by
        intro a b j hj hjk
        rcases (show j < k ∨ j = k by omega) with h | h
        · exact HN.out j hj h
        · subst h; exact ⟨a, b⟩)
      generalize l[k] = r at *
      obtain ⟨rp, rc, rcp, rd, rA, rdc⟩ := r
      simp only [En.Run.cells] at r0 r1 r2 r3
      clear hc HR HN
      have g1 : ∀ b1 b2, (rp.toList == p.toList) = b1 → (rc.toList == c.toList) = b2 → En.isK ⟨rp, rc, rcp, rd, rA, rdc⟩ p c = (b1 && b2) := by rintro _ _ rfl rfl; rfl
      have g2 : ∀ b1 b2 b3 b4, (rp.toList == p.toList) = b1 → (rc.toList == c.toList) = b2 → Op.bytesLess rp.toList p.toList = b3 → Op.bytesLess rc.toList c.toList = b4 → En.gtK ⟨rp, rc, rcp, rd, rA, rdc⟩ p c = (!(b3 || b1) || (b1 && !(b4 || b2))) := by rintro _ _ _ _ rfl rfl rfl rfl; rfl
      have G1 := Lib.hid g1
      have G2 := Lib.hid g2
      clear g1 g2
      have hbn := hbi.alloc hbi.size (.cells #[.string rp, .string rc, .int .u64 rcp, .slice rA rd.length rdc] 117)
      cases h1 : (rp.toList == p.toList)
      · cases h3 : Op.bytesLess rp.toList p.toList
        · have HF := Lib.hid (HP.out (G1.out _ _ h1 rfl) (by rw [G2.out _ _ _ _ h1 rfl h3 rfl]; rfl))
          clear HH HP HS G1 G2
          go_wp2_with fail
          go_ret2
          exact ⟨by rw [HF.out]; rfl, hbn⟩
        · have HF := Lib.hid (HS.out (G1.out _ _ h1 rfl) (by rw [G2.out _ _ _ _ h1 rfl h3 rfl]; rfl))
          clear HH HP HS G1 G2
          go_wp2_with fail
          go_roundw
          case rel => exact ⟨k + 1, by go_num, by omega, hbn, HF⟩
          case measure => simp [intOf]; omega
      · cases h2 : (rc.toList == c.toList)
        · cases h4 : Op.bytesLess rc.toList c.toList
          · have HF := Lib.hid (HP.out (G1.out _ _ h1 h2) (by rw [G2.out _ _ _ _ h1 h2 rfl h4]; simp))
            clear HH HP HS G1 G2
            go_wp2_with fail
            go_ret2
            exact ⟨by rw [HF.out]; rfl, hbn⟩
          · have HF := Lib.hid (HS.out (G1.out _ _ h1 h2) (by rw [G2.out _ _ _ _ h1 h2 rfl h4]; simp))
            clear HH HP HS G1 G2
            go_wp2_with fail
            go_roundw
            case rel => exact ⟨k + 1, by go_num, by omega, hbn, HF⟩
            case measure => simp [intOf]; omega
        · have HF := Lib.hid (HH.out (G1.out _ _ h1 h2))
          clear HH HP HS G1 G2
          go_wp2_with fail
          go_ret2
          exact ⟨by rw [HF.out]; rfl, hbn⟩
    · obtain rfl : k = l.length := by omega
      have HF := Lib.hid (En.atK_end p c l (fun j hj => HN.out j hj hj))
      have hc2 := fun i => (hbi.cell (p := ⟨be, i, none⟩) hbl).trans (hc i)
      clear HR HQ HN hc
      go_wp2_with fail
      go_ret2
      exact ⟨by rw [HF.out]; rfl, hbi⟩
end
end Go.Proofs.Yticmfflnenoplaa
