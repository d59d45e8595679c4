/- ostleryref: Core, Socket, On, Nodes, CountOn: their walks. -/
import Derived.Test.YticmfflnenoplaaTopoD
namespace Go.Proofs.Yticmfflnenoplaa
open Go.RowKit Tp
def RetW (v : Value) (w : World) (e : Ending) (w' : World) : Prop := e = .returned v ∧ w = w'
section
attribute [local irreducible] wh
set_option maxHeartbeats 1000000 in
theorem RCore_any (n : Int) (l : List Cpu) (hl : l.length ≤ 64) (v : Value) (B : Nat) (w : World) (hR : RS w (· < B) 3 RCpu [v] l) :
    Calls Try.prog 40 #[v, .int .i64 n] w (RetW (.int .u64 (wh (fun c => c.core == n) l l.length)) w) := by
  obtain ⟨A, c, e, hc1, hc2, hA⟩ := hR.form
  obtain rfl : v = _ := by simpa using e
  unfold maxLen at hc2
  have HA := Lib.hid hA
  have HR := Lib.hid hR
  clear hA hR e
  go_enter Try.func40, Try.ntmps40
  go_upto_region 3 with fail
  go_loop [5, 6] (fun s i => ∃ k : Nat, i = .int .i64 k ∧ k ≤ l.length ∧ s = .int .u64 (wh (fun c => c.core == n) l k)) (fun _ i => l.length - (intOf i).toNat)
  case atStart => exact ⟨0, rfl, by omega, by rw [wh_zero]; rfl⟩
  case round =>
    obtain ⟨k, rfl, hk, rfl⟩ := hrel
    by_cases hlt : k < l.length
    · obtain ⟨b, off, rfl, hb⟩ := HA.out k hlt
      obtain ⟨_, cs', q1, q2, q3, q4⟩ := HR.out.at_ hlt
      have r0 := q2 0 _ (by rw [q3]; rfl)
      rw [Nat.add_zero] at r0
      have hnx := Lib.hid (wh_next (fun c => c.core == n) l k hlt)
      have hw1 := wh_lt64 (fun c => c.core == n) l k (by omega)
      have HSH := Lib.hid (shl64 k (by omega))
      have HOR := Lib.hid (u64_or_nat (wh (fun c => c.core == n) l k) (2 ^ k) hw1 (by have := Nat.pow_lt_pow_right (a := 2) (by omega) (show k < 64 by omega); simpa using this))
      generalize l[k].core = x at *
      generalize wh (fun c => c.core == n) l k = a at *
      clear q1 q2 q3 q4
      by_cases he : x = n
      · have hb1 : (x == n) = true := by simpa using he
        have HB := Lib.hid hb1
        clear he
        go_wp2_with fail
        go_round
        case rel => exact ⟨k + 1, by go_num, by omega, by rw [hnx.out, HB.out, HSH.out, HOR.out]; rfl⟩
        case measure => simp [intOf]; omega
      · have hb1 : (x == n) = false := by simpa using he
        have HB := Lib.hid hb1
        clear he
        go_wp2_with fail
        go_round
        case rel => exact ⟨k + 1, by go_num, by omega, by rw [hnx.out, HB.out]; rfl⟩
        case measure => simp [intOf]; omega
    · obtain rfl : k = l.length := by omega
      go_wp2_with fail
      go_ret
      exact ⟨rfl, rfl⟩

set_option maxHeartbeats 1000000 in
theorem RSocket_any (n : Int) (l : List Cpu) (hl : l.length ≤ 64) (v : Value) (B : Nat) (w : World) (hR : RS w (· < B) 3 RCpu [v] l) :
    Calls Try.prog 42 #[v, .int .i64 n] w (RetW (.int .u64 (wh (fun c => c.socket == n) l l.length)) w) := by
  obtain ⟨A, c, e, hc1, hc2, hA⟩ := hR.form
  obtain rfl : v = _ := by simpa using e
  unfold maxLen at hc2
  have HA := Lib.hid hA
  have HR := Lib.hid hR
  clear hA hR e
  go_enter Try.func42, Try.ntmps42
  go_upto_region 3 with fail
  go_loop [5, 6] (fun s i => ∃ k : Nat, i = .int .i64 k ∧ k ≤ l.length ∧ s = .int .u64 (wh (fun c => c.socket == n) l k)) (fun _ i => l.length - (intOf i).toNat)
  case atStart => exact ⟨0, rfl, by omega, by rw [wh_zero]; rfl⟩
  case round =>
    obtain ⟨k, rfl, hk, rfl⟩ := hrel
    by_cases hlt : k < l.length
    · obtain ⟨b, off, rfl, hb⟩ := HA.out k hlt
      obtain ⟨_, cs', q1, q2, q3, q4⟩ := HR.out.at_ hlt
      have r0 := q2 1 _ (by rw [q3]; rfl)
      skip
      have hnx := Lib.hid (wh_next (fun c => c.socket == n) l k hlt)
      have hw1 := wh_lt64 (fun c => c.socket == n) l k (by omega)
      have HSH := Lib.hid (shl64 k (by omega))
      have HOR := Lib.hid (u64_or_nat (wh (fun c => c.socket == n) l k) (2 ^ k) hw1 (by have := Nat.pow_lt_pow_right (a := 2) (by omega) (show k < 64 by omega); simpa using this))
      generalize l[k].socket = x at *
      generalize wh (fun c => c.socket == n) l k = a at *
      clear q1 q2 q3 q4
      by_cases he : x = n
      · have hb1 : (x == n) = true := by simpa using he
        have HB := Lib.hid hb1
        clear he
        go_wp2_with fail
        go_round
        case rel => exact ⟨k + 1, by go_num, by omega, by rw [hnx.out, HB.out, HSH.out, HOR.out]; rfl⟩
        case measure => simp [intOf]; omega
      · have hb1 : (x == n) = false := by simpa using he
        have HB := Lib.hid hb1
        clear he
        go_wp2_with fail
        go_round
        case rel => exact ⟨k + 1, by go_num, by omega, by rw [hnx.out, HB.out]; rfl⟩
        case measure => simp [intOf]; omega
    · obtain rfl : k = l.length := by omega
      go_wp2_with fail
      go_ret
      exact ⟨rfl, rfl⟩

set_option maxHeartbeats 1000000 in
theorem ROn_any (m : Nat) (hm : m < 256) (l : List Cpu) (hl : l.length ≤ 64) (v : Value) (B : Nat) (w : World) (hR : RS w (· < B) 3 RCpu [v] l) (hnd : ∀ c, c ∈ l → 0 ≤ c.node ∧ c.node ≤ 3) :
    Calls Try.prog 38 #[v, .int .u8 m] w (RetW (.int .u64 (wh (fun c => onB m c) l l.length)) w) := by
  obtain ⟨A, c, e, hc1, hc2, hA⟩ := hR.form
  obtain rfl : v = _ := by simpa using e
  unfold maxLen at hc2
  have HA := Lib.hid hA
  have HR := Lib.hid hR
  have HD := Lib.hid hnd
  clear hA hR e hnd
  go_enter Try.func38, Try.ntmps38
  go_upto_region 3 with fail
  go_loop [5, 6] (fun s i => ∃ k : Nat, i = .int .i64 k ∧ k ≤ l.length ∧ s = .int .u64 (wh (fun c => onB m c) l k)) (fun _ i => l.length - (intOf i).toNat)
  case atStart => exact ⟨0, rfl, by omega, by rw [wh_zero]; rfl⟩
  case round =>
    obtain ⟨k, rfl, hk, rfl⟩ := hrel
    by_cases hlt : k < l.length
    · obtain ⟨b, off, rfl, hb⟩ := HA.out k hlt
      obtain ⟨_, cs', q1, q2, q3, q4⟩ := HR.out.at_ hlt
      have r0 := q2 2 _ (by rw [q3]; rfl)
      have hnx := Lib.hid (wh_next (fun c => onB m c) l k hlt)
      have hw1 := wh_lt64 (fun c => onB m c) l k (by omega)
      have hd := HD.out _ (List.getElem_mem hlt)
      have HSH := Lib.hid (shl64 k (by omega))
      have HOR := Lib.hid (u64_or_nat (wh (fun c => onB m c) l k) (2 ^ k) hw1 (by have := Nat.pow_lt_pow_right (a := 2) (by omega) (show k < 64 by omega); simpa using this))
      have hob := Lib.hid (show onB m l[k] = (Pop.bit m l[k].node.toNat == 1) from rfl)
      generalize wh (fun c => onB m c) l k = a at *
      generalize l[k] = x at *
      obtain ⟨x0, x1, x2⟩ := x
      dsimp only at r0 hd
      obtain ⟨q, rfl⟩ : ∃ q : Nat, x2 = (q : Int) := ⟨x2.toNat, by omega⟩
      have hbq := u8_bitp m q hm
      have h01 := bit_01 m q
      clear q1 q2 q3 q4
      rcases (show Pop.bit m q = 0 ∨ Pop.bit m q = 1 by omega) with hz | hz
      · rw [hz] at hbq
        have HB := Lib.hid (show onB m ⟨x0, x1, q⟩ = false by rw [hob.out]; simp [hz])
        clear hz h01
        go_wp2_with fail
        go_round
        case rel => exact ⟨k + 1, by go_num, by omega, by rw [hnx.out, HB.out]; rfl⟩
        case measure => simp [intOf]; omega
      · rw [hz] at hbq
        have HB := Lib.hid (show onB m ⟨x0, x1, q⟩ = true by rw [hob.out]; simp [hz])
        clear hz h01
        go_wp2_with fail
        go_round
        case rel => exact ⟨k + 1, by go_num, by omega, by rw [hnx.out, HB.out, HSH.out, HOR.out]; rfl⟩
        case measure => simp [intOf]; omega
    · obtain rfl : k = l.length := by omega
      go_wp2_with fail
      go_ret
      exact ⟨rfl, rfl⟩
end
section
attribute [local irreducible] nods
set_option maxHeartbeats 1000000 in
theorem RNodes_any (l : List Cpu) (v : Value) (B : Nat) (w : World) (hR : RS w (· < B) 3 RCpu [v] l) (hnd : ∀ c, c ∈ l → 0 ≤ c.node ∧ c.node ≤ 3) :
    Calls Try.prog 45 #[v] w (RetW (.int .u8 (nods l l.length)) w) := by
  obtain ⟨A, c, e, hc1, hc2, hA⟩ := hR.form
  obtain rfl : v = _ := by simpa using e
  unfold maxLen at hc2
  have HA := Lib.hid hA
  have HR := Lib.hid hR
  have HD := Lib.hid hnd
  clear hA hR e hnd
  go_enter Try.func45, Try.ntmps45
  go_upto_region 3 with fail
  go_loop [3, 4] (fun s i => ∃ k : Nat, i = .int .i64 k ∧ k ≤ l.length ∧ s = .int .u8 (nods l k)) (fun _ i => l.length - (intOf i).toNat)
  case atStart => exact ⟨0, rfl, by omega, by rw [nods_zero]; rfl⟩
  case round =>
    obtain ⟨k, rfl, hk, rfl⟩ := hrel
    by_cases hlt : k < l.length
    · obtain ⟨b, off, rfl, hb⟩ := HA.out k hlt
      obtain ⟨_, cs', q1, q2, q3, q4⟩ := HR.out.at_ hlt
      have r0 := q2 2 _ (by rw [q3]; rfl)
      have hnx := Lib.hid (nods_next l k hlt)
      have hd := HD.out _ (List.getElem_mem hlt)
      have hlt2 := nods_lt l HD.out k
      generalize l[k] = x at *
      obtain ⟨x0, x1, x2⟩ := x
      dsimp only at r0 hd
      obtain ⟨q, rfl⟩ : ∃ q : Nat, x2 = (q : Int) := ⟨x2.toNat, by omega⟩
      have HSH := Lib.hid (shl8 q (by omega))
      have HOR := Lib.hid (u8_or_nat (nods l k) (2 ^ q) (by omega) (by have := pow16n q (by omega); omega))
      clear q1 q2 q3 q4
      go_wp2_with fail
      go_round
      case rel => exact ⟨k + 1, by go_num, by omega, by rw [hnx.out, HSH.out, HOR.out]; rfl⟩
      case measure => simp [intOf]; omega
    · obtain rfl : k = l.length := by omega
      go_wp2_with fail
      go_ret
      exact ⟨rfl, rfl⟩
end
theorem u64_bit (m k : Nat) (hm : m < 18446744073709551616) : bits .and .u64 ((m : Int) / 2 ^ k) 1 = ((Pop.bit m k : Nat) : Int) := by
  have h1 : ((m : Int) / 2 ^ k) = ((m / 2 ^ k : Nat) : Int) := by simp
  have h2 : m / 2 ^ k < 18446744073709551616 := Nat.lt_of_le_of_lt (Nat.div_le_self _ _) hm
  rw [h1, show (1 : Int) = ((1 : Nat) : Int) from rfl, u64_and_nat _ _ h2 (by omega), nat_mask1]
  rfl
/-- The counts on nodes of the first k. -/
def cntA (l : List Cpu) (s k : Nat) : Array Value := #[.int .i64 (cntOn l s 0 k), .int .i64 (cntOn l s 1 k), .int .i64 (cntOn l s 2 k), .int .i64 (cntOn l s 3 k)]
theorem cntA_zero (l : List Cpu) (s : Nat) : cntA l s 0 = #[.int .i64 0, .int .i64 0, .int .i64 0, .int .i64 0] := rfl
theorem cntA_at (l : List Cpu) (s k q : Nat) (hq : q < 4) : (cntA l s k)[q]? = some (.int .i64 (cntOn l s q k)) := by
  rcases (show q = 0 ∨ q = 1 ∨ q = 2 ∨ q = 3 by omega) with rfl | rfl | rfl | rfl <;> rfl
theorem cntA_off (l : List Cpu) (s k : Nat) (h : k < l.length) (hb : Pop.bit s k = 0) : cntA l s (k + 1) = cntA l s k := by
  have h0 : s.testBit k = false := by
    have := bit_of s k
    rw [hb] at this
    cases ht : s.testBit k
    · rfl
    · rw [ht] at this; simp at this
  unfold cntA
  simp only [cntOn_next l s _ k h, h0, Bool.false_and, Bool.false_eq_true, if_false, Nat.add_zero]
theorem cntA_on (l : List Cpu) (s k q : Nat) (h : k < l.length) (hb : Pop.bit s k = 1) (hq : q < 4) (hn : l[k].node = (q : Int)) : (cntA l s k).setIfInBounds q (.int .i64 ((cntOn l s q k : Nat) + 1)) = cntA l s (k + 1) := by
  have h0 : s.testBit k = true := by
    have := bit_of s k
    rw [hb] at this
    cases ht : s.testBit k
    · rw [ht] at this; simp at this
    · rfl
  have hz : ∀ j : Nat, cntOn l s j (k + 1) = cntOn l s j k + if q = j then 1 else 0 := by
    intro j
    rw [cntOn_next l s j k h, h0, hn]
    by_cases he : q = j
    · simp [he]
    · have : ¬ ((q : Int) = (j : Int)) := by omega
      simp [he, this]
  unfold cntA
  rw [hz 0, hz 1, hz 2, hz 3]
  rcases (show q = 0 ∨ q = 1 ∨ q = 2 ∨ q = 3 by omega) with rfl | rfl | rfl | rfl <;> simp
section
attribute [local irreducible] cntOn cntA
set_option maxHeartbeats 1000000 in
theorem CountOn_any (s : Nat) (hs : s < 18446744073709551616) (l : List Cpu) (hl : l.length ≤ 64) (v : Value) (B : Nat) (w : World) (hB : B ≤ w.heap.size) (hR : RS w (· < B) 3 RCpu [v] l) (hnd : ∀ c, c ∈ l → 0 ≤ c.node ∧ c.node ≤ 3) :
    Calls Try.prog 47 #[v, .int .u64 s] w fun e w' => e = .returned (cntsV l s) ∧ Below w.heap.size w w' := by
  obtain ⟨A, c, e, hc1, hc2, hA⟩ := hR.form
  obtain rfl : v = _ := by simpa using e
  unfold maxLen at hc2
  have HA := Lib.hid hA
  have HR := Lib.hid hR
  have HD := Lib.hid hnd
  clear hA hR e hnd
  go_enter Try.func47, Try.ntmps47
  go_upto_region 3 with fail
  have k0 := Blk.new w 75 #[.int .i64 0, .int .i64 0, .int .i64 0, .int .i64 0]
  have k1 := Blk.new (w.alloc (.cells #[.int .i64 0, .int .i64 0, .int .i64 0, .int .i64 0] 75)) 75 #[.int .i64 0, .int .i64 0, .int .i64 0, .int .i64 0]
  have k0' := k0.alloc (.cells #[.int .i64 0, .int .i64 0, .int .i64 0, .int .i64 0] 75)
  have hbel0 : Below w.heap.size w ((w.alloc (.cells #[.int .i64 0, .int .i64 0, .int .i64 0, .int .i64 0] 75)).alloc (.cells #[.int .i64 0, .int .i64 0, .int .i64 0, .int .i64 0] 75)) := ((Below.refl _ _).alloc (Nat.le_refl _) _).alloc (by simp) _
  simp only [World.size_alloc] at k1
  generalize (w.alloc (.cells #[.int .i64 0, .int .i64 0, .int .i64 0, .int .i64 0] 75)).alloc (.cells #[.int .i64 0, .int .i64 0, .int .i64 0, .int .i64 0] 75) = w1 at *
  go_loopw [6] (fun i wr => ∃ n : Nat, i = .int .i64 n ∧ n ≤ l.length ∧ Blk wr w.heap.size 75 #[.int .i64 0, .int .i64 0, .int .i64 0, .int .i64 0] ∧ Blk wr (w.heap.size + 1) 75 (cntA l s n) ∧ Below w.heap.size w wr) (fun i _ => l.length - (intOf i).toNat)
  case atStart => exact ⟨0, rfl, by omega, k0', by rw [cntA_zero]; exact k1, hbel0⟩
  case round =>
    obtain ⟨n, rfl, hn, b0, b1, hbel⟩ := hrel
    have hz := b1.lt
    by_cases hlt : n < l.length
    · obtain ⟨b, off, rfl, hb⟩ := HA.out n hlt
      obtain ⟨_, cs', q1, q2, q3, q4⟩ := HR.out.at_ hlt
      have r0 := (hbel.cell (p := ⟨b, off + n * 3 + 2, none⟩) (by dsimp only; omega)).trans (q2 2 _ (by rw [q3]; rfl))
      have hd := HD.out _ (List.getElem_mem hlt)
      have hoff := Lib.hid (cntA_off l s n hlt)
      have hon := Lib.hid (fun q => cntA_on l s n q hlt)
      generalize l[n] = x at *
      obtain ⟨x0, x1, x2⟩ := x
      dsimp only at r0 hd
      obtain ⟨q, rfl⟩ : ∃ q : Nat, x2 = (q : Int) := ⟨x2.toNat, by omega⟩
      have hbq := u64_bit s n hs
      have h01 := bit_01 s n
      have e1 := (b1.cell q).trans (cntA_at l s n q (by omega))
      have f1 := b1.frozen q
      have hcl := cntOn_le l s q n
      clear q1 q2 q3 q4
      rcases (show Pop.bit s n = 0 ∨ Pop.bit s n = 1 by omega) with hz1 | hz1
      · rw [hz1] at hbq
        have HZ := Lib.hid hz1
        clear hz1 h01
        go_wp2_with fail
        go_roundw
        case rel => exact ⟨n + 1, by go_num, by omega, b0, b1.cast (hoff.out HZ.out).symm, hbel⟩
        case measure => simp [intOf]; omega
      · rw [hz1] at hbq
        have HZ := Lib.hid hz1
        clear hz1 h01
        go_wp2_with fail
        go_roundw
        case rel => exact ⟨n + 1, by go_num, by omega, b0.far (by simp) _, (b1.set_ _ _).cast (hon.out q HZ.out (by omega) rfl), hbel.setCell (by simp) _⟩
        case measure => simp [intOf]; omega
    · obtain rfl : n = l.length := by omega
      have b1' := b1.cast (cs' := #[.int .i64 (cntOn l s 0 l.length), .int .i64 (cntOn l s 1 l.length), .int .i64 (cntOn l s 2 l.length), .int .i64 (cntOn l s 3 l.length)]) (by unfold cntA; rfl)
      have e1 := b1'.cells
      have e0 := b0.cells
      have f0 := b0.frozens
      go_wp2_with fail
      have b4 := (((b0.set_ 0 (.int .i64 (cntOn l s 0 l.length))).set_ 1 (.int .i64 (cntOn l s 1 l.length))).set_ 2 (.int .i64 (cntOn l s 2 l.length))).set_ 3 (.int .i64 (cntOn l s 3 l.length))
      have hbe := ((((hbel.setCell (p := ⟨w.heap.size, 0, none⟩) (Nat.le_refl _) (.int .i64 (cntOn l s 0 l.length))).setCell (p := ⟨w.heap.size, 1, none⟩) (Nat.le_refl _) (.int .i64 (cntOn l s 1 l.length))).setCell (p := ⟨w.heap.size, 2, none⟩) (Nat.le_refl _) (.int .i64 (cntOn l s 2 l.length))).setCell (p := ⟨w.heap.size, 3, none⟩) (Nat.le_refl _) (.int .i64 (cntOn l s 3 l.length)))
      generalize (((wr.setCell ⟨w.heap.size, 0, none⟩ (.int .i64 (cntOn l s 0 l.length))).setCell ⟨w.heap.size, 1, none⟩ (.int .i64 (cntOn l s 1 l.length))).setCell ⟨w.heap.size, 2, none⟩ (.int .i64 (cntOn l s 2 l.length))).setCell ⟨w.heap.size, 3, none⟩ (.int .i64 (cntOn l s 3 l.length)) = wz at *
      have b5 := b4.cast (cs' := #[.int .i64 (cntOn l s 0 l.length), .int .i64 (cntOn l s 1 l.length), .int .i64 (cntOn l s 2 l.length), .int .i64 (cntOn l s 3 l.length)]) (by simp)
      have ez := b5.cells
      exact bodyPost_ret (v := cntsV l s) (by simp [results, Try.results47, go_sem, ez, cntsV]) rfl ⟨rfl, hbe⟩
end
end Go.Proofs.Yticmfflnenoplaa
