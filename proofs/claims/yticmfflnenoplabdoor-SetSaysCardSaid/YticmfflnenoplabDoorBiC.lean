/- Sets of processors: Of, List, Inside, and the reference's: their walks. No statement is proved here. -/
import Derived.Test.YticmfflnenoplabDoorBiB
namespace Go.Proofs.YticmfflnenoplabDoor
open Go.RowKit Go.Deep Pop Bi
def RetUE (r : Nat × Int) (w : World) (e : Ending) (w' : World) : Prop := e = .returned (.tuple #[.int .u64 r.1, errV r.2]) ∧ w = w'
def RetUI (r : Nat × Int) (w : World) (e : Ending) (w' : World) : Prop := e = .returned (.tuple #[.int .u64 r.1, .int .i64 r.2]) ∧ w = w'
theorem RetUE.bad {r : Nat × Int} {w : World} (h : r = (0, 1)) : RetUE r w (.returned (.tuple #[.int .u64 0, .iface 59 (.int .i64 1)])) w := by
  subst h; exact ⟨by dsimp only; rw [errV_pos 1 (by omega)]; rfl, rfl⟩
theorem RetUE.ok {r : Nat × Int} {a : Nat} {w : World} (h : r = (a, 0)) : RetUE r w (.returned (.tuple #[.int .u64 a, .nilIface])) w := by
  subst h; exact ⟨rfl, rfl⟩
theorem RetUI.of {r : Nat × Int} {a : Nat} {f : Int} {w : World} (h : r = (a, f)) : RetUI r w (.returned (.tuple #[.int .u64 a, .int .i64 f])) w := by
  subst h; exact ⟨rfl, rfl⟩
theorem rs_int1 {w : World} {S : Nat → Prop} {b off n cap : Nat} {l : List Int} (h : RS w S 1 RInt [.slice (some ⟨b, off, none⟩) n cap] l) {k : Nat} (hk : k < l.length) : w.cell? ⟨b, off + k, none⟩ = some (.int .i64 l[k]) ∧ -9223372036854775808 ≤ l[k] ∧ l[k] ≤ 9223372036854775807 := by
  obtain ⟨_, cs', h1, h2, h3, h4⟩ := h.at_ hk
  have := h2 0 (.int .i64 l[k]) (by rw [h3]; rfl)
  rw [Nat.mul_one, Nat.add_zero] at this
  exact ⟨this, h4⟩
namespace Bi
theorem ofA_bad {l : List Int} {k a : Nat} (hk : k < l.length) (h : ofP l = ofA a (l.drop k)) (hb : l[k] < 0 ∨ 63 < l[k]) : ofP l = (0, 1) := by
  rw [h, List.drop_eq_getElem_cons hk, ofA, if_pos hb]
theorem ofA_next {l : List Int} {k a n : Nat} (hk : k < l.length) (h : ofP l = ofA a (l.drop k)) (he : l[k] = n) (hn : n < 64) : ofP l = ofA (a ||| 2 ^ n) (l.drop (k + 1)) := by
  rw [h, List.drop_eq_getElem_cons hk, ofA, if_neg (by omega), he]
  rfl
theorem ofA_end {l : List Int} {a : Nat} (h : ofP l = ofA a (l.drop l.length)) : ofP l = (a, 0) := by rw [h, List.drop_length]; rfl
end Bi
section
attribute [local irreducible] ofP ofA inS listF hiS
set_option maxRecDepth 100000 in
set_option maxHeartbeats 2000000 in
theorem Of_any (v : Value) (l : List Int) (S : Nat → Prop) (w : World) (h : RS w S 1 RInt [v] l) : Calls Tryd.prog 7 #[v] w (RetUE (ofP l) w) := by
  obtain ⟨A, cap, hv, hl, hcap, hA⟩ := h.form
  obtain rfl : v = _ := by simpa using hv
  unfold maxLen at hcap
  have HA := Lib.hid hA
  have HR := Lib.hid h
  have H0 : Hid (ofP l = ofA 0 (l.drop 0)) := Lib.hid (by unfold ofP; rfl)
  clear h hv hA
  go_enter Tryd.func7, Tryd.ntmps7
  go_wp2_with fail
  go_loop [4, 9] (fun s i => ∃ (k a : Nat), i = .int .i64 k ∧ k ≤ l.length ∧ s = .int .u64 a ∧ a < 18446744073709551616 ∧ Hid (ofP l = ofA a (l.drop k))) (fun _ i => l.length - (intOf i).toNat)
  case atStart => exact ⟨0, 0, rfl, by omega, rfl, by omega, H0⟩
  case round =>
    clear H0
    obtain ⟨k, a, rfl, hk, rfl, ha, HG⟩ := hrel
    by_cases hlt : k < l.length
    · obtain ⟨b, off, rfl, _⟩ := HA.out k hlt
      obtain ⟨c0, b1, b2⟩ := rs_int1 HR.out hlt
      have HBA := Lib.hid (ofA_bad hlt HG.out)
      have HNE := Lib.hid (fun (n : Nat) => ofA_next (n := n) hlt HG.out)
      generalize l[k] = x at *
      by_cases h1 : x < 0
      · have HX := Lib.hid (HBA.out (.inl h1))
        clear HBA HNE HG
        go_wp2_with fail
        go_ret2
        exact RetUE.bad HX.out
      · by_cases h2 : 64 ≤ x
        · have HX := Lib.hid (HBA.out (.inr (by omega)))
          clear HBA HNE HG
          go_wp2_with fail
          go_ret2
          exact RetUE.bad HX.out
        · obtain ⟨n, rfl⟩ : ∃ n : Nat, x = n := ⟨x.toNat, by omega⟩
          have hn : n < 64 := by omega
          have HX := Lib.hid (HNE.out n rfl hn)
          have hsh := shl64s n hn
          have HOR : Hid (bits .or .u64 (a : Int) ((2 : Int) ^ n) = ((a ||| 2 ^ n : Nat) : Int)) := Lib.hid (by rw [show (2 : Int) ^ n = ((2 ^ n : Nat) : Int) by simp]; exact u64_or_nat a (2 ^ n) ha (pow_lt hn))
          have hol := or_lt ha (pow_lt hn)
          have hp := pow_lt hn
          clear HBA HNE HG h1 h2
          go_wp2_with fail
          go_round
          case rel => exact ⟨k + 1, a ||| 2 ^ n, by go_num, by omega, by rw [HOR.out], hol, HX⟩
          case measure => simp [intOf]; omega
    · obtain rfl : k = l.length := by omega
      have HX := Lib.hid (ofA_end HG.out)
      clear HG
      go_wp2_with fail
      go_ret2
      exact RetUE.ok HX.out
set_option maxRecDepth 100000 in
set_option maxHeartbeats 2000000 in
theorem ROf_any (v : Value) (l : List Int) (S : Nat → Prop) (w : World) (h : RS w S 1 RInt [v] l) : Calls Tryd.prog 8 #[v] w (RetUI (ofP l) w) := by
  obtain ⟨A, cap, hv, hl, hcap, hA⟩ := h.form
  obtain rfl : v = _ := by simpa using hv
  unfold maxLen at hcap
  have HA := Lib.hid hA
  have HR := Lib.hid h
  have H0 : Hid (ofP l = ofA 0 (l.drop 0)) := Lib.hid (by unfold ofP; rfl)
  clear h hv hA
  go_enter Tryd.func8, Tryd.ntmps8
  go_wp2_with fail
  go_loop [4, 5] (fun s i => ∃ (k a : Nat), i = .int .i64 k ∧ k ≤ l.length ∧ s = .int .u64 a ∧ a < 18446744073709551616 ∧ Hid (ofP l = ofA a (l.drop k))) (fun _ i => l.length - (intOf i).toNat)
  case atStart => exact ⟨0, 0, rfl, by omega, rfl, by omega, H0⟩
  case round =>
    clear H0
    obtain ⟨k, a, rfl, hk, rfl, ha, HG⟩ := hrel
    by_cases hlt : k < l.length
    · obtain ⟨b, off, rfl, _⟩ := HA.out k hlt
      obtain ⟨c0, b1, b2⟩ := rs_int1 HR.out hlt
      have HBA := Lib.hid (ofA_bad hlt HG.out)
      have HNE := Lib.hid (fun (n : Nat) => ofA_next (n := n) hlt HG.out)
      generalize l[k] = x at *
      by_cases h1 : x < 0
      · have HX := Lib.hid (HBA.out (.inl h1))
        clear HBA HNE HG
        go_wp2_with fail
        go_ret2
        exact RetUI.of HX.out
      · by_cases h2 : 63 < x
        · have HX := Lib.hid (HBA.out (.inr (by omega)))
          clear HBA HNE HG
          go_wp2_with fail
          go_ret2
          exact RetUI.of HX.out
        · obtain ⟨n, rfl⟩ : ∃ n : Nat, x = n := ⟨x.toNat, by omega⟩
          have hn : n < 64 := by omega
          have HX := Lib.hid (HNE.out n rfl hn)
          have hsh := shl64s n hn
          have HOR : Hid (bits .or .u64 (a : Int) ((2 : Int) ^ n) = ((a ||| 2 ^ n : Nat) : Int)) := Lib.hid (by rw [show (2 : Int) ^ n = ((2 ^ n : Nat) : Int) by simp]; exact u64_or_nat a (2 ^ n) ha (pow_lt hn))
          have hol := or_lt ha (pow_lt hn)
          have hp := pow_lt hn
          clear HBA HNE HG h1 h2
          go_wp2_with fail
          go_round
          case rel => exact ⟨k + 1, a ||| 2 ^ n, by go_num, by omega, by rw [HOR.out], hol, HX⟩
          case measure => simp [intOf]; omega
    · obtain rfl : k = l.length := by omega
      have HX := Lib.hid (ofA_end HG.out)
      clear HG
      go_wp2_with fail
      go_ret2
      exact RetUI.of HX.out
/-- Numbers of the call's own. -/
def natV (l : List Nat) : List Value := l.map fun (n : Nat) => Value.int .i64 ((n : Nat) : Int)
theorem natV_nil : natV [] = [] := rfl
theorem natV_snoc (l : List Nat) (i : Nat) : natV (l ++ [i]) = natV l ++ [.int .i64 i] := by simp [natV]
def RetL (l : List Nat) (w : World) (e : Ending) (w' : World) : Prop := ∃ A c, e = .returned (.slice A l.length c) ∧ w'.ownsRow w.heap.size 3 1 (.slice A l.length c) l.length (natV l) ∧ Below w.heap.size w w'
theorem RetL.of {l m : List Nat} {A : Option Addr} {c : Nat} {w w' : World} (h : l = m) (ho : w'.ownsRow w.heap.size 3 1 (.slice A m.length c) m.length (natV m)) (hb : Below w.heap.size w w') : RetL l w (.returned (.slice A m.length c)) w' := by
  subst h; exact ⟨A, c, rfl, ho, hb⟩
theorem intT : ElemT Tryd.prog 24 3 (.int .i64 0) 1 8 := ⟨Tryd.underlying24, by kernel_rfl, rfl, by omega⟩
set_option maxRecDepth 100000 in
set_option maxHeartbeats 2000000 in
theorem RList_any (x : Nat) (hx : x < 18446744073709551616) (w : World) : Calls Tryd.prog 12 #[.int .u64 x] w (RetL (listF x 64) w) := by
  have H0 := Lib.hid (listF_zero x)
  have HX := Lib.hid hx
  have hx0 : (0 : Int) ≤ x := by omega
  have hx1 : (x : Int) ≤ 18446744073709551615 := by omega
  clear hx
  go_enter Tryd.func12, Tryd.ntmps12
  go_wp2_with fail
  go_loopw [3, 4] (fun v i wi => ∃ (k : Nat) (A : Option Addr) (c : Nat), i = .int .i64 k ∧ k ≤ 64 ∧ v = .slice A (listF x k).length c ∧ Hid (wi.ownsRow w.heap.size 3 1 (.slice A (listF x k).length c) (listF x k).length (natV (listF x k))) ∧ Below w.heap.size w wi) (fun _ i _ => 64 - (intOf i).toNat)
  case atStart => exact ⟨0, none, 0, rfl, by omega, by rw [H0.out]; rfl, Lib.hid (by rw [H0.out, natV_nil]; exact World.ownsRow_nil _ _ _ _), Below.refl _ _⟩
  case round =>
    obtain ⟨k, A, c, rfl, hk, rfl, HO, hb⟩ := hrel
    have hln := listF_len x k
    by_cases hlt : k < 64
    · have hbt := u64_bitp x k HX.out
      have hk64 : (k : Int) < 64 := by omega
      cases hi : inS x k
      · have HN := Lib.hid (listF_no hi)
        rw [inS_no.1 hi] at hbt
        clear hi
        go_wp2_with fail
        go_roundw
        case rel => exact ⟨k + 1, A, c, by go_num, by omega, by rw [HN.out], Lib.hid (by rw [HN.out]; exact HO.out), hb⟩
        case measure => simp [intOf]; omega
      · have HN := Lib.hid (listF_yes hi)
        rw [inS_iff.1 hi] at hbt
        clear hi
        go_wp2_with (at_builtin; refine wpList_app _ intT rfl (.tmp 15) (.tmp 17) rfl w.heap.size (.slice A (listF x k).length c) (listF x k).length (natV (listF x k)) rfl (by exact HO.out.alloc _) ⟨wr.heap.size, 0, none⟩ 1 1 [.int .i64 k] rfl rfl (news_new wr _ _) (by simp [Value.oneCell']) (by omega) (by unfold maxLen; omega) (by omega) (by have := hb.size; simp; omega) ?_; intro g8 c8 w8 hown8 hgr8 hat8 hlt8)
        rw [← natV_snoc, ← HN.out] at hown8
        have HO8 := Lib.hid hown8
        have hba := hb.alloc hb.size (.cells #[.int .i64 k] 3)
        have hb8 : Below w.heap.size w w8 := hba.grown hgr8 hba.size (fun q hq => (HO.out.lt q hq).1)
        have HLN : Hid ((listF x (k + 1)).length = (listF x k).length + 1) := Lib.hid (by rw [HN.out]; simp)
        clear hown8 hgr8 hat8 hba HO
        go_wp2_with fail
        go_roundw
        case rel => exact ⟨k + 1, some ⟨g8, 0, none⟩, c8, by go_num, by omega, by rw [HLN.out], Lib.hid (by have := HO8.out; rw [← HLN.out] at this; exact this), hb8⟩
        case measure => simp [intOf]; omega
    · obtain rfl : k = 64 := by omega
      go_wp2_with fail
      go_ret
      exact RetL.of rfl HO.out hb
set_option maxRecDepth 100000 in
set_option maxHeartbeats 2000000 in
theorem List_any (x : Nat) (hx : x < 18446744073709551616) (w : World) (hL : LayS w) : Calls Tryd.prog 11 #[.int .u64 x] w (RetL (listF x 64) w) := by
  have H0 := Lib.hid (listF_zero x)
  have HH0 := Lib.hid (hiS_zero x)
  have HX := Lib.hid hx
  have HL := Lib.hid hL
  clear hx hL
  go_enter Tryd.func11, Tryd.ntmps11
  go_wp2_with fail
  go_loopw [0, 3] (fun s v wi => ∃ (k : Nat) (A : Option Addr) (c : Nat), k ≤ 64 ∧ s = .int .u64 (hiS x k) ∧ v = .slice A (listF x k).length c ∧ Hid (wi.ownsRow w.heap.size 3 1 (.slice A (listF x k).length c) (listF x k).length (natV (listF x k))) ∧ Below w.heap.size w wi) (fun s _ _ => (intOf s).toNat)
  case atStart => exact ⟨0, none, 0, by omega, by rw [HH0.out], by rw [H0.out]; rfl, Lib.hid (by rw [H0.out, natV_nil]; exact World.ownsRow_nil _ _ _ _), Below.refl _ _⟩
  case round =>
    obtain ⟨k, A, c, hk, rfl, rfl, HO, hb⟩ := hrel
    have hln := listF_len x k
    by_cases hz : hiS x k = 0
    · have HG : Hid (listF x 64 = listF x k) := Lib.hid (listF_gap hk fun i h1 _ => hiS_none hz i h1)
      rw [hz]
      clear hz
      go_wp2_with fail
      go_ret
      exact RetL.of HG.out HO.out hb
    · obtain ⟨q, hq, hkq, hq64, hin, hgap, hand⟩ := hiS_step HX.out hz
      have hle := hiS_le x k
      have hxl := HX.out
      have HTZ := Lib.hid (Any7.bits_TrailingZeros64 ShelfT.Tryd.tz64 (hiS x k) (by omega) wr (fun _ => (HL.out.below hb).tz))
      rw [hq] at HTZ
      have HTZ2 : Hid (Calls Tryd.prog 30 #[.int .u64 (hiS x k)] wr fun e w' => e = .returned (.int .i64 q) ∧ w' = wr) := Lib.hid HTZ.out
      have HN : Hid (listF x (q + 1) = listF x k ++ [q]) := Lib.hid (by rw [listF_yes hin, listF_gap hkq hgap])
      have hdec : hiS x (q + 1) < hiS x k := by
        have h1 := Nat.and_le_right (n := hiS x k) (m := hiS x k - 1)
        rw [hand] at h1
        omega
      have HDEC := Lib.hid hdec
      have HAND : Hid (bits .and .u64 ((hiS x k : Nat) : Int) (((hiS x k : Nat) : Int) - 1) = ((hiS x (q + 1) : Nat) : Int)) := Lib.hid (by
        rw [show ((hiS x k : Nat) : Int) - 1 = ((hiS x k - 1 : Nat) : Int) by omega, u64_and_nat _ _ (by omega) (by omega), hand])
      have HLN : Hid ((listF x (q + 1)).length = (listF x k).length + 1) := Lib.hid (by rw [HN.out]; simp)
      have hs0 : 0 < hiS x k := by omega
      have hsn : ((hiS x k : Int) != 0) = true := by simp; omega
      have hs1 : ((hiS x k : Nat) : Int) ≤ 18446744073709551615 := by omega
      have hs2 : (1 : Int) ≤ ((hiS x k : Nat) : Int) := by omega
      clear hq hin hgap hand hdec hz HTZ hle hxl
      generalize hiS x k = s at *
      go_wp2_with fail
      refine HTZ2.out.mono ?_
      rintro e w5 ⟨rfl, rfl⟩
      clear HTZ2
      go_wp2_with (at_builtin; refine wpList_app _ intT rfl (.tmp 10) (.tmp 13) rfl w.heap.size (.slice A (listF x k).length c) (listF x k).length (natV (listF x k)) rfl (by exact HO.out.alloc _) ⟨w5.heap.size, 0, none⟩ 1 1 [.int .i64 q] rfl rfl (news_new w5 _ _) (by simp [Value.oneCell']) (by omega) (by unfold maxLen; omega) (by omega) (by have := hb.size; simp; omega) ?_; intro g8 c8 w8 hown8 hgr8 hat8 hlt8)
      rw [← natV_snoc, ← HN.out] at hown8
      have HO8 := Lib.hid hown8
      have hba := hb.alloc hb.size (.cells #[.int .i64 q] 3)
      have hb8 : Below w.heap.size w w8 := hba.grown hgr8 hba.size (fun q hq => (HO.out.lt q hq).1)
      clear hown8 hgr8 hat8 hba HO hsn
      go_wp2_with fail
      go_roundw
      case rel => exact ⟨q + 1, some ⟨g8, 0, none⟩, c8, by omega, by rw [HAND.out], by rw [HLN.out], Lib.hid (by have := HO8.out; rw [← HLN.out] at this; exact this), hb8⟩
      case measure =>
        have h1 := HDEC.out
        have h2 := HAND.out
        simp only [intOf, h2]
        omega
end
end Go.Proofs.YticmfflnenoplabDoor
