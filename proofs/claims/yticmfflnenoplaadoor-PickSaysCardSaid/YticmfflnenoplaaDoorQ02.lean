/- Texts laid together: AmD, ShelfT, BiB, BiC, AmB, AmE, AmF, FloB, AmG, BiD, BiE, BiP. No statement is proved here. -/
import Derived.Shelf.Spec.TrailingZeros
import Derived.Ground.Names7Prog
import Derived.Test.YticmfflnenoplaaDoorProg
import Derived.Lib.SlBytesRow
import Derived.Lib.AtoiAllCases
import Derived.Lib.SplitLaws
import Derived.WideShapes
import Derived.Test.YticmfflnenoplaaDoorQ01
namespace Go.Proofs.YticmfflnenoplaaDoor
open Go.RowKit Am Go.Sort
/-- What of Go's library is laid. -/
structure Lay (w : World) : Prop where
  tab : Lib.TabIs Tryd.prog w "internal/strconv.uint64pow10" .u64 Lib.pow10Tab
  most : ∃ m : Int, w.cell? ⟨0, 0, none⟩ = some (.int .i64 m)
theorem Lay.below {w w' : World} (h : Lay w) (hb : Below w.heap.size w w') : Lay w' := by
  refine ⟨?_, ?_⟩
  · have ht := h.tab
    unfold Lib.TabIs World.var? at ht ⊢
    rw [show Tryd.prog.globalNamed "internal/strconv.uint64pow10" = some 1 by kernel_rfl] at ht ⊢
    simp only [Option.bind_some] at ht ⊢
    have hlt : 1 < w.heap.size := by
      rcases Nat.lt_or_ge 1 w.heap.size with h' | h'
      · exact h'
      · rw [Array.getElem?_eq_none h'] at ht; cases ht
    rw [hb.block _ hlt]
    exact ht
  · obtain ⟨m, hm⟩ := h.most
    exact ⟨m, (hb.cell (World.block_lt_of_cell? w _ hm)).trans hm⟩
theorem Lay.below' {w w' : World} {B : Nat} (h : Lay w) (hb : Below B w w') (hB : w.heap.size ≤ B) : Lay w' := h.below (hb.mono hB)
theorem below_drewN9 {B : Nat} {a w : World} (h : Below B a w) (n : Nat) : Below B a (w.drewN n) := ⟨h.os, h.tape, h.output, h.size, h.block⟩
theorem below_grow9 {B : Nat} {a w : World} (h : Below B a w) (os : Array Obj) (hB : B ≤ w.heap.size) : Below B a (grow w os) := by
  refine ⟨h.os, h.tape, h.output, ?_, ?_⟩
  · have := h.size
    simp [grow]
    omega
  · intro b hb
    rw [← h.block b hb]
    show (w.heap ++ os)[b]? = w.heap[b]?
    rw [Array.getElem?_append_left (by omega)]
theorem itoa_any (n : Int) (h0 : -9223372036854775808 ≤ n) (h1 : n ≤ 9223372036854775807) (w : World) (hL : Lay w) :
    Calls Tryd.prog 23 #[.int .i64 n] w (fun e w' => e = .returned (.string ⟨(Lib.itoa n).toArray⟩) ∧ Below w.heap.size w w') := by
  refine (Tryd.strconv_Itoa n h0 h1 w hL.tab).mono ?_
  rintro e w' ⟨rfl, k, os, rfl⟩
  exact ⟨rfl, below_grow9 (below_drewN9 (Below.refl _ _) k) os (Nat.le_refl _)⟩
theorem cut_any (s sep : ByteArray) (hs : s.size < 4294967281) (w : World) (hL : Lay w) :
    Calls Tryd.prog 34 #[.string s, .string sep] w (fun e w' => e = .returned (.tuple #[.string ⟨(Lib.cut s.data.toList sep.data.toList).1.toArray⟩, .string ⟨(Lib.cut s.data.toList sep.data.toList).2.1.toArray⟩, .bool (Lib.cut s.data.toList sep.data.toList).2.2]) ∧ Below w.heap.size w w') := by
  obtain ⟨m, hm⟩ := hL.most
  refine (Tryd.strings_Cut s sep m w hs hm).mono ?_
  rintro e w' ⟨rfl, k, rfl⟩
  exact ⟨rfl, below_drewN9 (Below.refl _ _) k⟩
def RetNE (r : Int × Int) (w : World) (e : Ending) (w' : World) : Prop := e = .returned (.tuple #[.int .i64 r.1, errV r.2]) ∧ Below w.heap.size w w'
theorem RetNE.nil {r : Int × Int} {n : Int} {w w' : World} (h : r = (n, 0)) (hb : Below w.heap.size w w') : RetNE r w (.returned (.tuple #[.int .i64 n, .nilIface])) w' := by
  subst h; exact ⟨rfl, hb⟩
theorem RetNE.err {r : Int × Int} {n m : Int} {w w' : World} (h : r = (n, m)) (hm : m ≠ 0) (hb : Below w.heap.size w w') : RetNE r w (.returned (.tuple #[.int .i64 n, .iface 23 (.int .i64 m)])) w' := by
  subst h; exact ⟨by dsimp only; rw [errV_pos m hm], hb⟩
def RetSE (s : List UInt8) (f : Int) (w : World) (e : Ending) (w' : World) : Prop := e = .returned (.tuple #[.string ⟨s.toArray⟩, errV f]) ∧ Below w.heap.size w w'
theorem itoa_len (n : Int) (h0 : 0 ≤ n) (h1 : n ≤ 1125899906842624) : (Lib.itoa n).length ≤ 16 := by
  obtain ⟨m, rfl⟩ : ∃ m : Nat, n = m := ⟨n.toNat, by omega⟩
  rw [itoa_nat]
  exact dec_len m 16 (by omega) (by omega)
section
attribute [local irreducible] Lib.itoa
set_option maxHeartbeats 1000000 in
theorem MilliText_any (n : Int) (h0 : 0 ≤ n) (h1 : n ≤ 1000000) (w : World) (hL : Lay w) : Calls Tryd.prog 19 #[.int .i64 n] w (RetSE (milliT n) 0 w) := by
  have HI := Lib.hid (fun (k : Int) (hk : 0 ≤ k ∧ k ≤ 1000000) => itoa_any k (by omega) (by omega) w hL)
  have HT := Lib.hid (fun (k : Int) (hk : 0 ≤ k ∧ k ≤ 1000000) => itoa_len k hk.1 (by omega))
  clear hL
  by_cases hm : n % 1000 = 0
  · have HM := Lib.hid (show milliT n = Lib.itoa (n / 1000) by simp [milliT, hm])
    go_enter Tryd.func19, Tryd.ntmps19
    go_wp2_with fail
    refine (HI.out (n / 1000) (by omega)).mono ?_
    rintro e w1 ⟨rfl, hb1⟩
    go_wp2_with fail
    go_ret2
    exact ⟨by rw [HM.out]; rfl, hb1⟩
  · have HM := Lib.hid (show milliT n = Lib.itoa n ++ [109] by simp [milliT, hm])
    go_enter Tryd.func19, Tryd.ntmps19
    have hl := HT.out n (by omega)
    go_wp2_with fail
    refine (HI.out n (by omega)).mono ?_
    rintro e w1 ⟨rfl, hb1⟩
    generalize Lib.itoa n = l at *
    go_wp2_with fail
    go_ret2
    exact ⟨by rw [HM.out]; rfl, hb1⟩
set_option maxHeartbeats 1000000 in
theorem MilliText_bad (n : Int) (h : n < 0 ∨ 1000000 < n) (w : World) : Calls Tryd.prog 19 #[.int .i64 n] w (RetSE [] 1 w) := by
  rcases h with h | h
  · go_enter Tryd.func19, Tryd.ntmps19
    go_wp2_with fail
    go_ret2
    exact ⟨rfl, Below.refl _ _⟩
  · have h2 : ¬ n < 0 := by omega
    go_enter Tryd.func19, Tryd.ntmps19
    go_wp2_with fail
    go_ret2
    exact ⟨rfl, Below.refl _ _⟩
end
end Go.Proofs.YticmfflnenoplaaDoor
namespace Go.Proofs.ShelfT
open Go.Proofs
open Go.Shelf
def Tryd.tz64_ren : Go.Shelf.Ren := ⟨fun | 29 => 67 | n => n, fun | 22 => 32 | 3 => 3 | 4 => 4 | 25 => 87 | 54 => 112 | 0 => 0 | 5 => 5 | n => n, fun | 1 => 2 | n => n⟩
theorem Tryd.tz64 : Go.Proofs.Lays7.n29 Tryd.prog Tryd.tz64_ren := {
  mixed := by kernel_rfl
  f29 := Tryd.func67.trans (congrArg some (by kernel_rfl))
  t0 := Tryd.underlying0
  a0 := Tryd.isAgg0
  z0 := Tryd.sizeOf0
  v0 := Tryd.zeroValue0
  i0 := by kernel_rfl
  t3 := Tryd.underlying3
  a3 := Tryd.isAgg3
  z3 := Tryd.sizeOf3
  v3 := Tryd.zeroValue3
  i3 := by kernel_rfl
  t4 := Tryd.underlying4
  a4 := Tryd.isAgg4
  z4 := Tryd.sizeOf4
  v4 := Tryd.zeroValue4
  i4 := by kernel_rfl
  t5 := Tryd.underlying5
  a5 := Tryd.isAgg5
  z5 := Tryd.sizeOf5
  v5 := Tryd.zeroValue5
  i5 := by kernel_rfl
  t22 := Tryd.underlying32
  a22 := Tryd.isAgg32
  z22 := Tryd.sizeOf32
  v22 := Tryd.zeroValue32
  i22 := by kernel_rfl
  t25 := Tryd.underlying87
  a25 := Tryd.isAgg87
  z25 := Tryd.sizeOf87
  v25 := Tryd.zeroValue87
  i25 := by kernel_rfl
  t54 := Tryd.underlying112
  a54 := Tryd.isAgg112
  z54 := Tryd.sizeOf112
  g1 := by kernel_rfl }
end Go.Proofs.ShelfT
namespace Go.Proofs.YticmfflnenoplaaDoor
open Go.RowKit Go.Deep Pop Bi
/-- What of Go's library is laid. -/
structure LayS (w : World) : Prop where
  lay : Lay w
  tz : TabAt 2 Lib.deBruijn64tab w
  syn : ∃ tp p, w.var? Tryd.prog "strconv.ErrSyntax" = some #[.iface tp p]
  rng : ∃ tp p, w.var? Tryd.prog "strconv.ErrRange" = some #[.iface tp p]
theorem var_below {w w' : World} {s : String} {g : Nat} {v : Array Value} (hg : Tryd.prog.globalNamed s = some g) (h : w.var? Tryd.prog s = some v) (hb : Below w.heap.size w w') : w'.var? Tryd.prog s = some v := by
  unfold World.var? at h ⊢
  rw [hg] at h ⊢
  simp only [Option.bind_some] at h ⊢
  have hlt : g < w.heap.size := by
    rcases Nat.lt_or_ge g w.heap.size with h' | h'
    · exact h'
    · rw [Array.getElem?_eq_none h'] at h; cases h
  rw [hb.block _ hlt]
  exact h
theorem u64_bitp (m k : Nat) (hm : m < 18446744073709551616) : bits .and .u64 ((m : Int) / 2 ^ k) 1 = ((Pop.bit m k : Nat) : Int) := by
  have h1 : ((m : Int) / 2 ^ k) = ((m / 2 ^ k : Nat) : Int) := by simp
  have h2 : m / 2 ^ k < 18446744073709551616 := Nat.lt_of_le_of_lt (Nat.div_le_self _ _) hm
  rw [h1, show (1 : Int) = ((1 : Nat) : Int) from rfl, u64_and_nat _ _ h2 (by omega), nat_mask1]
  rfl
theorem shl64s (n : Nat) (h : n < 64) : IntKind.u64.wrap ((2 : Int) ^ n) = ((2 ^ n : Nat) : Int) := by
  have h3 := pow_lt h
  have h2 : (2 : Int) ^ n = ((2 ^ n : Nat) : Int) := by simp
  rw [h2, IntKind.wrap_u64]
  generalize 2 ^ n = x at *
  omega
namespace Bi
def hasF (x : Nat) (n : Int) : Bool := decide (0 ≤ n) && decide (n < 64) && inS x n.toNat
theorem hasF_at {x k : Nat} (h : k < 64) : hasF x k = inS x k := by simp [hasF, show (k : Int) < 64 by omega]
theorem hasF_out {x : Nat} {n : Int} (h : n < 0 ∨ 64 ≤ n) : hasF x n = false := by
  unfold hasF
  rcases h with h | h
  · simp [show ¬ 0 ≤ n by omega]
  · simp [show ¬ n < 64 by omega]
end Bi
end Go.Proofs.YticmfflnenoplaaDoor
namespace Go.Proofs.YticmfflnenoplaaDoor
open Go.RowKit Go.Deep Pop Bi
def RetUE (r : Nat × Int) (w : World) (e : Ending) (w' : World) : Prop := e = .returned (.tuple #[.int .u64 r.1, errV r.2]) ∧ w = w'
def RetUI (r : Nat × Int) (w : World) (e : Ending) (w' : World) : Prop := e = .returned (.tuple #[.int .u64 r.1, .int .i64 r.2]) ∧ w = w'
theorem RetUE.bad {r : Nat × Int} {w : World} (h : r = (0, 1)) : RetUE r w (.returned (.tuple #[.int .u64 0, .iface 23 (.int .i64 1)])) w := by
  subst h; exact ⟨by dsimp only; rw [errV_pos 1 (by omega)]; rfl, rfl⟩
theorem RetUE.ok {r : Nat × Int} {a : Nat} {w : World} (h : r = (a, 0)) : RetUE r w (.returned (.tuple #[.int .u64 a, .nilIface])) w := by
  subst h; exact ⟨rfl, rfl⟩
theorem RetUI.of {r : Nat × Int} {a : Nat} {f : Int} {w : World} (h : r = (a, f)) : RetUI r w (.returned (.tuple #[.int .u64 a, .int .i64 f])) w := by
  subst h; exact ⟨rfl, rfl⟩
theorem rs_int1 {w : World} {S : Nat → Prop} {b off n cap : Nat} {l : List Int} (h : RS w S 1 RInt [.slice (some ⟨b, off, none⟩) n cap] l) {k : Nat} (hk : k < l.length) : w.cell? ⟨b, off + k, none⟩ = some (.int .i64 l[k]) ∧ -9223372036854775808 ≤ l[k] ∧ l[k] ≤ 9223372036854775807 := by
  obtain ⟨_, cs', h1, h2, h3, h4⟩ := h.at_ hk
  have := h2 0 (.int .i64 l[k]) (by rw [h3]; rfl)
  rw [Nat.mul_one, Nat.add_zero] at this
  exact ⟨this, h4⟩
namespace Bi
theorem ofA_bad {l : List Int} {k a : Nat} (hk : k < l.length) (h : ofP l = ofA a (l.drop k)) (hb : l[k] < 0 ∨ 63 < l[k]) : ofP l = (0, 1) := by
  rw [h, List.drop_eq_getElem_cons hk, ofA, if_pos hb]
theorem ofA_next {l : List Int} {k a n : Nat} (hk : k < l.length) (h : ofP l = ofA a (l.drop k)) (he : l[k] = n) (hn : n < 64) : ofP l = ofA (a ||| 2 ^ n) (l.drop (k + 1)) := by
  rw [h, List.drop_eq_getElem_cons hk, ofA, if_neg (by omega), he]
  rfl
theorem ofA_end {l : List Int} {a : Nat} (h : ofP l = ofA a (l.drop l.length)) : ofP l = (a, 0) := by rw [h, List.drop_length]; rfl
end Bi
section
attribute [local irreducible] ofP ofA inS listF hiS
/-- Numbers of the call's own. -/
def natV (l : List Nat) : List Value := l.map fun (n : Nat) => Value.int .i64 ((n : Nat) : Int)
theorem natV_nil : natV [] = [] := rfl
theorem natV_snoc (l : List Nat) (i : Nat) : natV (l ++ [i]) = natV l ++ [.int .i64 i] := by simp [natV]
def RetL (l : List Nat) (w : World) (e : Ending) (w' : World) : Prop := ∃ A c, e = .returned (.slice A l.length c) ∧ w'.ownsRow w.heap.size 3 1 (.slice A l.length c) l.length (natV l) ∧ Below w.heap.size w w'
theorem RetL.of {l m : List Nat} {A : Option Addr} {c : Nat} {w w' : World} (h : l = m) (ho : w'.ownsRow w.heap.size 3 1 (.slice A m.length c) m.length (natV m)) (hb : Below w.heap.size w w') : RetL l w (.returned (.slice A m.length c)) w' := by
  subst h; exact ⟨A, c, rfl, ho, hb⟩
theorem intT : ElemT Tryd.prog 22 3 (.int .i64 0) 1 8 := ⟨Tryd.underlying22, by kernel_rfl, rfl, by omega⟩
set_option maxRecDepth 100000 in
set_option maxHeartbeats 2000000 in
theorem RList_any (x : Nat) (hx : x < 18446744073709551616) (w : World) : Calls Tryd.prog 47 #[.int .u64 x] w (RetL (listF x 64) w) := by
  have H0 := Lib.hid (listF_zero x)
  have HX := Lib.hid hx
  have hx0 : (0 : Int) ≤ x := by omega
  have hx1 : (x : Int) ≤ 18446744073709551615 := by omega
  clear hx
  go_enter Tryd.func47, Tryd.ntmps47
  go_wp2_with fail
  go_loopw [3, 4] (fun v i wi => ∃ (k : Nat) (A : Option Addr) (c : Nat), i = .int .i64 k ∧ k ≤ 64 ∧ v = .slice A (listF x k).length c ∧ Hid (wi.ownsRow w.heap.size 3 1 (.slice A (listF x k).length c) (listF x k).length (natV (listF x k))) ∧ Below w.heap.size w wi) (fun _ i _ => 64 - (intOf i).toNat)
  case atStart => exact ⟨0, none, 0, rfl, by omega, by rw [H0.out]; rfl, Lib.hid (by rw [H0.out, natV_nil]; exact World.ownsRow_nil _ _ _ _), Below.refl _ _⟩
  case round =>
    obtain ⟨k, A, c, rfl, hk, rfl, HO, hb⟩ := hrel
    have hln := listF_len x k
    by_cases hlt : k < 64
    · have hbt := u64_bitp x k HX.out
      have hk64 : (k : Int) < 64 := by omega
      cases hi : inS x k
      · have HN := Lib.hid (listF_no hi)
        rw [inS_no.1 hi] at hbt
        clear hi
        go_wp2_with fail
        go_roundw
        case rel => exact ⟨k + 1, A, c, by go_num, by omega, by rw [HN.out], Lib.hid (by rw [HN.out]; exact HO.out), hb⟩
        case measure => simp [intOf]; omega
      · have HN := Lib.hid (listF_yes hi)
        rw [inS_iff.1 hi] at hbt
        clear hi
        go_wp2_with (at_builtin; refine wpList_app _ intT rfl (.tmp 15) (.tmp 17) rfl w.heap.size (.slice A (listF x k).length c) (listF x k).length (natV (listF x k)) rfl (by exact HO.out.alloc _) ⟨wr.heap.size, 0, none⟩ 1 1 [.int .i64 k] rfl rfl (news_new wr _ _) (by simp [Value.oneCell']) (by omega) (by unfold maxLen; omega) (by omega) (by have := hb.size; simp; omega) ?_; intro g8 c8 w8 hown8 hgr8 hat8 hlt8)
        rw [← natV_snoc, ← HN.out] at hown8
        have HO8 := Lib.hid hown8
        have hba := hb.alloc hb.size (.cells #[.int .i64 k] 3)
        have hb8 : Below w.heap.size w w8 := hba.grown hgr8 hba.size (fun q hq => (HO.out.lt q hq).1)
        have HLN : Hid ((listF x (k + 1)).length = (listF x k).length + 1) := Lib.hid (by rw [HN.out]; simp)
        clear hown8 hgr8 hat8 hba HO
        go_wp2_with fail
        go_roundw
        case rel => exact ⟨k + 1, some ⟨g8, 0, none⟩, c8, by go_num, by omega, by rw [HLN.out], Lib.hid (by have := HO8.out; rw [← HLN.out] at this; exact this), hb8⟩
        case measure => simp [intOf]; omega
    · obtain rfl : k = 64 := by omega
      go_wp2_with fail
      go_ret
      exact RetL.of rfl HO.out hb
theorem TabAt.below {g : Nat} {tab : List Nat} {w w' : World} (h : TabAt g tab w) (hb : Below w.heap.size w w') : TabAt g tab w' := fun j hj =>
  (hb.cell (World.block_lt_of_cell? w _ (h j hj))).trans (h j hj)
set_option maxRecDepth 100000 in
set_option maxHeartbeats 2000000 in
theorem ListB_any (x : Nat) (hx : x < 18446744073709551616) (w : World) (hL : TabAt 2 Lib.deBruijn64tab w) : Calls Tryd.prog 56 #[.int .u64 x] w (RetL (listF x 64) w) := by
  have H0 := Lib.hid (listF_zero x)
  have HH0 := Lib.hid (hiS_zero x)
  have HX := Lib.hid hx
  have HL := Lib.hid hL
  clear hx hL
  go_enter Tryd.func56, Tryd.ntmps56
  go_wp2_with fail
  go_loopw [0, 3] (fun s v wi => ∃ (k : Nat) (A : Option Addr) (c : Nat), k ≤ 64 ∧ s = .int .u64 (hiS x k) ∧ v = .slice A (listF x k).length c ∧ Hid (wi.ownsRow w.heap.size 3 1 (.slice A (listF x k).length c) (listF x k).length (natV (listF x k))) ∧ Below w.heap.size w wi) (fun s _ _ => (intOf s).toNat)
  case atStart => exact ⟨0, none, 0, by omega, by rw [HH0.out], by rw [H0.out]; rfl, Lib.hid (by rw [H0.out, natV_nil]; exact World.ownsRow_nil _ _ _ _), Below.refl _ _⟩
  case round =>
    obtain ⟨k, A, c, hk, rfl, rfl, HO, hb⟩ := hrel
    have hln := listF_len x k
    by_cases hz : hiS x k = 0
    · have HG : Hid (listF x 64 = listF x k) := Lib.hid (listF_gap hk fun i h1 _ => hiS_none hz i h1)
      rw [hz]
      clear hz
      go_wp2_with fail
      go_ret
      exact RetL.of HG.out HO.out hb
    · obtain ⟨q, hq, hkq, hq64, hin, hgap, hand⟩ := hiS_step HX.out hz
      have hle := hiS_le x k
      have hxl := HX.out
      have HTZ := Lib.hid (Any7.bits_TrailingZeros64 ShelfT.Tryd.tz64 (hiS x k) (by omega) wr (fun _ => TabAt.below HL.out hb))
      rw [hq] at HTZ
      have HTZ2 : Hid (Calls Tryd.prog 67 #[.int .u64 (hiS x k)] wr fun e w' => e = .returned (.int .i64 q) ∧ w' = wr) := Lib.hid HTZ.out
      have HN : Hid (listF x (q + 1) = listF x k ++ [q]) := Lib.hid (by rw [listF_yes hin, listF_gap hkq hgap])
      have hdec : hiS x (q + 1) < hiS x k := by
        have h1 := Nat.and_le_right (n := hiS x k) (m := hiS x k - 1)
        rw [hand] at h1
        omega
      have HDEC := Lib.hid hdec
      have HAND : Hid (bits .and .u64 ((hiS x k : Nat) : Int) (((hiS x k : Nat) : Int) - 1) = ((hiS x (q + 1) : Nat) : Int)) := Lib.hid (by
        rw [show ((hiS x k : Nat) : Int) - 1 = ((hiS x k - 1 : Nat) : Int) by omega, u64_and_nat _ _ (by omega) (by omega), hand])
      have HLN : Hid ((listF x (q + 1)).length = (listF x k).length + 1) := Lib.hid (by rw [HN.out]; simp)
      have hs0 : 0 < hiS x k := by omega
      have hsn : ((hiS x k : Int) != 0) = true := by simp; omega
      have hs1 : ((hiS x k : Nat) : Int) ≤ 18446744073709551615 := by omega
      have hs2 : (1 : Int) ≤ ((hiS x k : Nat) : Int) := by omega
      clear hq hin hgap hand hdec hz HTZ hle hxl
      generalize hiS x k = s at *
      go_wp2_with fail
      refine HTZ2.out.mono ?_
      rintro e w5 ⟨rfl, rfl⟩
      clear HTZ2
      go_wp2_with (at_builtin; refine wpList_app _ intT rfl (.tmp 10) (.tmp 13) rfl w.heap.size (.slice A (listF x k).length c) (listF x k).length (natV (listF x k)) rfl (by exact HO.out.alloc _) ⟨w5.heap.size, 0, none⟩ 1 1 [.int .i64 q] rfl rfl (news_new w5 _ _) (by simp [Value.oneCell']) (by omega) (by unfold maxLen; omega) (by omega) (by have := hb.size; simp; omega) ?_; intro g8 c8 w8 hown8 hgr8 hat8 hlt8)
      rw [← natV_snoc, ← HN.out] at hown8
      have HO8 := Lib.hid hown8
      have hba := hb.alloc hb.size (.cells #[.int .i64 q] 3)
      have hb8 : Below w.heap.size w w8 := hba.grown hgr8 hba.size (fun q hq => (HO.out.lt q hq).1)
      clear hown8 hgr8 hat8 hba HO hsn
      go_wp2_with fail
      go_roundw
      case rel => exact ⟨q + 1, some ⟨g8, 0, none⟩, c8, by omega, by rw [HAND.out], by rw [HLN.out], Lib.hid (by have := HO8.out; rw [← HLN.out] at this; exact this), hb8⟩
      case measure =>
        have h1 := HDEC.out
        have h2 := HAND.out
        simp only [intOf, h2]
        omega
theorem List_any (x : Nat) (hx : x < 18446744073709551616) (w : World) (hL : LayS w) : Calls Tryd.prog 56 #[.int .u64 x] w (RetL (listF x 64) w) := ListB_any x hx w hL.tz
end
end Go.Proofs.YticmfflnenoplaaDoor
namespace Go.Proofs.YticmfflnenoplaaDoor
namespace Am
open Go
/-- A number that stops to grow above a bound. -/
def clip (s : List UInt8) (most : Nat) : Nat → Nat
  | 0 => 0
  | k + 1 => if clip s most k ≤ most then 10 * clip s most k + ((s[k]?.getD 48).toNat - 48) else clip s most k
theorem clip_next (s : List UInt8) (most k : Nat) (h : k < s.length) : clip s most (k + 1) = if clip s most k ≤ most then 10 * clip s most k + (s[k].toNat - 48) else clip s most k := by
  simp [clip, List.getElem?_eq_getElem h]
theorem clip_num (s : List UInt8) (most : Nat) (k : Nat) (hk : k ≤ s.length) : (clip s most k ≤ most ∧ clip s most k = num (s.take k)) ∨ (most < clip s most k ∧ most < num (s.take k)) := by
  induction k with
  | zero => exact .inl ⟨Nat.zero_le _, by simp [clip, num, valD]⟩
  | succ k ih =>
    rw [clip_next s most k (by omega), num_take s k (by omega)]
    rcases ih (by omega) with ⟨h1, h2⟩ | ⟨h1, h2⟩
    · rw [if_pos h1, h2]
      by_cases hc : 10 * num (s.take k) + (s[k].toNat - 48) ≤ most
      · exact .inl ⟨hc, rfl⟩
      · exact .inr ⟨by omega, by omega⟩
    · rw [if_neg (by omega)]
      exact .inr ⟨h1, by omega⟩
theorem clip_le (s : List UInt8) (most : Nat) (hall : s.all isD = true) (k : Nat) (hk : k ≤ s.length) : clip s most k ≤ 10 * most + 9 := by
  induction k with
  | zero => simp [clip]
  | succ k ih =>
    have hd := isD_le (List.all_eq_true.1 hall s[k] (List.getElem_mem (by omega)))
    rw [clip_next s most k (by omega)]
    split
    · omega
    · exact ih (by omega)
theorem clip_full (s : List UInt8) (most : Nat) : min (clip s most s.length) (most + 1) = min (num s) (most + 1) := by
  have h := clip_num s most s.length (Nat.le_refl _)
  rw [List.take_length] at h
  rcases h with ⟨h1, h2⟩ | ⟨h1, h2⟩
  · rw [h2]
  · omega
/-- What the document's digits tell. -/
def digR (s : List UInt8) (most : Nat) : Nat × Bool := if okD s then (min (num s) (most + 1), true) else (0, false)
/-! ### Processors -/
theorem cut_dot (s : List UInt8) : Lib.cut s [46] = (s.take (dot s), s.drop (dot s + 1), decide (dot s < s.length)) := by
  have key : ∀ l : List UInt8, (dot l < l.length ∧ Lib.index l [46] = (dot l : Int)) ∨ (dot l = l.length ∧ Lib.index l [46] = -1) := by
    intro l
    induction l with
    | nil => exact .inr ⟨rfl, rfl⟩
    | cons b l ih =>
      rw [Lib.index_one] at ih ⊢
      unfold dot at ih ⊢
      rw [List.findIdx_cons, Lib.indexByte]
      cases hb : (b == 46)
      · rcases ih with ⟨h1, h2⟩ | ⟨h1, h2⟩
        · refine .inl ⟨by simp only [cond_false, List.length_cons]; omega, ?_⟩
          simp [h2]
        · refine .inr ⟨by simp only [cond_false, List.length_cons]; omega, ?_⟩
          simp [h2]
      · exact .inl ⟨by simp, by simp⟩
  unfold Lib.cut
  rcases key s with ⟨h1, h2⟩ | ⟨h1, h2⟩
  · rw [h2, if_pos (by omega), decide_eq_true h1]
    simp
  · rw [h2, if_neg (by omega), h1, List.take_length, List.drop_of_length_le (by omega)]
    simp
theorem num_one (b : List UInt8) : num (49 :: b) = 10 ^ b.length + num b := by
  have key : ∀ (b : List UInt8) (n : Nat), valD b n = n * 10 ^ b.length + valD b 0 := by
    intro b
    induction b with
    | nil => intro n; simp [valD]
    | cons c b ih =>
      intro n
      show valD b (10 * n + (c.toNat - 48)) = n * 10 ^ (b.length + 1) + valD b (10 * 0 + (c.toNat - 48))
      simp only [Nat.mul_zero, Nat.zero_add]
      rw [ih (10 * n + (c.toNat - 48)), ih (c.toNat - 48), Nat.pow_succ, Nat.add_mul]
      have : n * (10 ^ b.length * 10) = 10 * n * 10 ^ b.length := by rw [Nat.mul_comm 10 n, Nat.mul_assoc, Nat.mul_comm 10]
      omega
  show valD b (10 * 0 + (49 - 48)) = _
  rw [key b]
  simp [num]
theorem okD_one (b : List UInt8) : okD (49 :: b) = b.all isD := by
  have : isD 49 = true := by decide
  simp [okD, lead, this]
/-- The prt behind the point, of three places. -/
def prt (b : List UInt8) : Nat → Nat
  | 0 => 0
  | i + 1 => 10 * prt b i + (match b[i]? with | some c => c.toNat - 48 | none => 0)
theorem prt_in (b : List UInt8) (i : Nat) (h : i < b.length) : prt b (i + 1) = 10 * prt b i + (b[i].toNat - 48) := by
  simp [prt, List.getElem?_eq_getElem h]
theorem prt_out (b : List UInt8) (i : Nat) (h : b.length ≤ i) : prt b (i + 1) = 10 * prt b i := by
  simp [prt, List.getElem?_eq_none h]
theorem prt_take (b : List UInt8) (i : Nat) (h : i ≤ b.length) : prt b i = num (b.take i) := by
  induction i with
  | zero => simp [prt, num, valD]
  | succ i ih => rw [prt_in b i (by omega), num_take b i (by omega), ih (by omega)]
theorem prt_more (b : List UInt8) (d : Nat) : prt b (b.length + d) = num b * 10 ^ d := by
  induction d with
  | zero =>
    rw [Nat.add_zero, prt_take b b.length (Nat.le_refl _), List.take_length]
    simp
  | succ d ih => rw [← Nat.add_assoc, prt_out b _ (by omega), ih, Nat.pow_succ, ← Nat.mul_assoc (num b), Nat.mul_comm 10]
theorem prt_three (b : List UInt8) (h : b.length ≤ 3) : prt b 3 = num b * 10 ^ (3 - b.length) := by
  have := prt_more b (3 - b.length)
  rwa [show b.length + (3 - b.length) = 3 by omega] at this
/-- The document's way, by its cases. -/
theorem milli_m {s : List UInt8} (t : List UInt8) (h : s = t ++ [109]) : milliP s = if okD t && decide (t.length ≤ 9) then fin (num t) true else (0, 4) := by
  subst h
  have ⟨h1, h2⟩ := suf_app t [109]
  unfold milliP
  rw [if_pos h1, h2]
  rcases digP_or t 9 with ⟨a, b, c⟩ | ⟨a, c⟩
  · rw [c, a, decide_eq_true b]; rfl
  · rw [c]
    have : (okD t && decide (t.length ≤ 9)) = false := by
      rcases a with a | a
      · rw [a]; rfl
      · rw [decide_eq_false (by omega)]; simp
    rw [this]; rfl
theorem milli_no {s : List UInt8} (h : s.getLast? ≠ some 109) : milliP s = if dot s < s.length then fin (pointP (s.take (dot s)) (s.drop (dot s + 1))).1 (pointP (s.take (dot s)) (s.drop (dot s + 1))).2 else fin (1000 * (digP (s.take (dot s)) 6).1) (digP (s.take (dot s)) 6).2 := by
  unfold milliP
  rw [suf_no (p := [109]) (c := 109) rfl h, cut_dot]
  simp only [Bool.false_eq_true, if_false, decide_eq_true_eq]
theorem milli_plain {s : List UInt8} (h : s.getLast? ≠ some 109) (hd : ¬ dot s < s.length) : milliP s = if okD (s.take (dot s)) && decide ((s.take (dot s)).length ≤ 6) then fin (1000 * (num (s.take (dot s)) : Int)) true else (0, 4) := by
  rw [milli_no h, if_neg hd]
  generalize s.take (dot s) = t
  rcases digP_or t 6 with ⟨a, b, c⟩ | ⟨a, c⟩
  · rw [c, a, decide_eq_true b]; rfl
  · rw [c]
    have : (okD t && decide (t.length ≤ 6)) = false := by
      rcases a with a | a
      · rw [a]; rfl
      · rw [decide_eq_false (by omega)]; simp
    rw [this]; rfl
theorem milli_point {s : List UInt8} (h : s.getLast? ≠ some 109) (hd : dot s < s.length) :
    milliP s = if okD (s.take (dot s)) && decide ((s.take (dot s)).length ≤ 6) && (decide (1 ≤ (s.drop (dot s + 1)).length) && decide ((s.drop (dot s + 1)).length ≤ 3)) && (s.drop (dot s + 1)).all isD then fin (1000 * (num (s.take (dot s)) : Int) + (prt (s.drop (dot s + 1)) 3 : Nat)) true else (0, 4) := by
  rw [milli_no h, if_pos hd]
  generalize s.take (dot s) = t
  generalize s.drop (dot s + 1) = b
  unfold pointP
  rcases digP_or t 6 with ⟨a, b6, c⟩ | ⟨a, c⟩
  · rw [c, a, decide_eq_true b6]
    dsimp only
    rcases digP_or (49 :: b) 4 with ⟨a2, b2, c2⟩ | ⟨a2, c2⟩
    · rw [c2]
      dsimp only
      rw [okD_one] at a2
      simp only [List.length_cons] at b2
      rw [a2, decide_eq_true (show b.length ≤ 3 by omega)]
      cases b with
      | nil => simp [fin_no]
      | cons x b =>
        simp only [List.length_cons] at b2
        have h3 := prt_three (x :: b) (by simp; omega)
        rw [h3, num_one]
        simp only [List.length_cons, List.isEmpty_cons, Bool.not_false, Bool.and_self, decide_eq_true (show 1 ≤ b.length + 1 by omega), if_true]
        congr 1
        rw [show min (b.length + 1) 3 = b.length + 1 by omega]
        have hp : (10 : Int) ^ (b.length + 1) * 10 ^ (3 - (b.length + 1)) = 1000 := by
          have : b.length = 0 ∨ b.length = 1 ∨ b.length = 2 := by omega
          rcases this with e | e | e <;> rw [e] <;> rfl
        rw [Int.natCast_add, Int.natCast_mul, Int.add_mul]
        simp only [Int.natCast_pow, Int.cast_ofNat_Int]
        rw [hp]
        omega
    · rw [c2]
      dsimp only
      rw [okD_one] at a2
      have : (decide (1 ≤ b.length) && decide (b.length ≤ 3) && b.all isD) = false := by
        rcases a2 with a2 | a2
        · rw [a2]; simp
        · rw [decide_eq_false (show ¬ b.length ≤ 3 by simp at a2; omega)]; simp
      simp only [Bool.true_and, this, Bool.and_false, Bool.false_and, Bool.false_eq_true, if_false]
      rfl
  · rw [c]
    have : (okD t && decide (t.length ≤ 6)) = false := by
      rcases a with a | a
      · rw [a]; rfl
      · rw [decide_eq_false (by omega)]; simp
    rw [this]
    simp [fin_no]
/-! ### Bytes -/
def sizeR (s : List UInt8) : Nat × Nat :=
  if Lib.hasSuffix s [75, 105] then (1024, s.length - 2) else if Lib.hasSuffix s [77, 105] then (1048576, s.length - 2) else if Lib.hasSuffix s [71, 105] then (1073741824, s.length - 2)
  else if Lib.hasSuffix s [84, 105] then (1099511627776, s.length - 2) else (1, s.length)
theorem suf_iff (s : List UInt8) (c : UInt8) : Lib.hasSuffix s [c, 105] = (decide (1 < s.length) && (s[s.length - 1]? == some 105) && (s[s.length - 2]? == some c)) := by
  rw [Bool.eq_iff_iff]
  simp only [Bool.and_eq_true, decide_eq_true_eq, beq_iff_eq]
  unfold Lib.hasSuffix
  rw [List.isSuffixOf_iff_suffix]
  constructor
  · rintro ⟨t, rfl⟩
    refine ⟨⟨by simp, ?_⟩, ?_⟩
    · rw [List.getElem?_append_right (by simp)]
      simp
    · rw [List.getElem?_append_right (by simp)]
      simp
  · rintro ⟨⟨h1, h2⟩, h3⟩
    refine ⟨s.take (s.length - 2), ?_⟩
    obtain ⟨i1, e1⟩ := List.getElem?_eq_some_iff.1 h2
    obtain ⟨i2, e2⟩ := List.getElem?_eq_some_iff.1 h3
    conv => rhs; rw [← List.take_append_drop (s.length - 2) s]
    congr 1
    rw [List.drop_eq_getElem_cons i2, e2]
    congr 1
    rw [show s.length - 2 + 1 = s.length - 1 by omega, List.drop_eq_getElem_cons i1, e1, show s.length - 1 + 1 = s.length by omega, List.drop_length]
theorem suf_ne {s : List UInt8} {a b : UInt8} (h : Lib.hasSuffix s [a, 105] = true) (hab : a ≠ b) : Lib.hasSuffix s [b, 105] = false := by
  rw [suf_iff] at h ⊢
  simp only [Bool.and_eq_true, decide_eq_true_eq, beq_iff_eq] at h
  rw [h.2]
  simp [hab]
theorem bytes_way (s : List UInt8) : bytesP s = byteP (s.take (sizeR s).2) (sizeR s).1 := by
  unfold bytesP units sizeR
  simp only [bytesU]
  have ht : ∀ p : List UInt8, p.length = 2 → Lib.hasSuffix s p = true → Lib.trimSuffix s p = s.take (s.length - 2) := by
    intro p hp h
    unfold Lib.trimSuffix
    rw [if_pos h, hp]
  cases hK : Lib.hasSuffix s [75, 105]
  · cases hM : Lib.hasSuffix s [77, 105]
    · cases hG : Lib.hasSuffix s [71, 105]
      · cases hT : Lib.hasSuffix s [84, 105]
        · have : Lib.hasSuffix s [] = true ∧ Lib.trimSuffix s [] = s := by
            have := suf_app s []
            simpa using this
          simp [this]
        · simp [ht _ rfl hT]
      · simp [suf_ne hG (show (71 : UInt8) ≠ 84 by decide), ht _ rfl hG]
    · simp [suf_ne hM (show (77 : UInt8) ≠ 84 by decide), suf_ne hM (show (77 : UInt8) ≠ 71 by decide), ht _ rfl hM]
  · simp [suf_ne hK (show (75 : UInt8) ≠ 84 by decide), suf_ne hK (show (75 : UInt8) ≠ 71 by decide), suf_ne hK (show (75 : UInt8) ≠ 77 by decide), ht _ rfl hK]
end Am
end Go.Proofs.YticmfflnenoplaaDoor
namespace Go.Proofs.YticmfflnenoplaaDoor
open Go.RowKit Am
theorem digits_l (t : List UInt8) (ht : t.length ≤ 200) (most : Nat) (hm : most ≤ 16) (w : World) : Calls Tryd.prog 33 #[.string ⟨t.toArray⟩, .int .i64 most] w (RetDig (digP t most) w) := by
  have := digits_any ⟨t.toArray⟩ (by simp [ByteArray.size, maxLen]; omega) most hm w
  simpa using this
theorem one_cons (b : List UInt8) : (⟨#[49]⟩ : ByteArray) ++ ⟨b.toArray⟩ = ⟨(49 :: b).toArray⟩ := by
  apply ByteArray.ext
  rw [ByteArray.data_append]
  simp
theorem cut_lens (l p : List UInt8) : (Lib.cut l p).1.length ≤ l.length ∧ (Lib.cut l p).2.1.length ≤ l.length := by
  unfold Lib.cut
  split
  · exact ⟨by simp; omega, by simp⟩
  · exact ⟨Nat.le_refl _, by simp⟩
theorem trim_len (l p : List UInt8) : (Lib.trimSuffix l p).length ≤ l.length := by
  unfold Lib.trimSuffix
  split
  · simp
  · exact Nat.le_refl _
theorem milliP_m {l : List UInt8} (h : Lib.hasSuffix l [109] = true) : milliP l = fin (digP (Lib.trimSuffix l [109]) 9).1 (digP (Lib.trimSuffix l [109]) 9).2 := by
  unfold milliP; rw [if_pos h]
theorem milliP_p {l : List UInt8} (h : Lib.hasSuffix l [109] = false) (hp : (Lib.cut l [46]).2.2 = true) : milliP l = fin (pointP (Lib.cut l [46]).1 (Lib.cut l [46]).2.1).1 (pointP (Lib.cut l [46]).1 (Lib.cut l [46]).2.1).2 := by
  unfold milliP; rw [h, if_neg (by simp), if_pos hp]
theorem milliP_w {l : List UInt8} (h : Lib.hasSuffix l [109] = false) (hp : (Lib.cut l [46]).2.2 = false) : milliP l = fin (1000 * (digP (Lib.cut l [46]).1 6).1) (digP (Lib.cut l [46]).1 6).2 := by
  unfold milliP; rw [h, if_neg (by simp), hp, if_neg (by simp)]
section
attribute [local irreducible] digP milliP pointP fin Lib.cut Lib.trimSuffix Lib.hasSuffix
set_option maxHeartbeats 2000000 in
theorem Milli_any (s : ByteArray) (hs : s.size ≤ 100) (w : World) (hL : Lay w) : Calls Tryd.prog 15 #[.string s] w (RetNE (milliP s.data.toList) w) := by
  have HS := Lib.hid (Tryd.strings_CutSuffix s ⟨#[109]⟩ w (by omega))
  have HC := Lib.hid (cut_any s ⟨#[46]⟩ (by omega) w hL)
  rw [show (⟨#[109]⟩ : ByteArray).data.toList = [109] from rfl] at HS
  rw [show (⟨#[46]⟩ : ByteArray).data.toList = [46] from rfl] at HC
  clear hL
  have hsl : s.data.toList.length ≤ 100 := hs
  generalize s.data.toList = l at *
  have HT := Lib.hid (fun W => digits_l (Lib.trimSuffix l [109]) (Nat.le_trans (trim_len l [109]) (by omega)) 9 (by omega) W)
  have hcl := cut_lens l [46]
  have HA := Lib.hid (fun W => digits_l (Lib.cut l [46]).1 (Nat.le_trans hcl.1 (by omega)) 6 (by omega) W)
  have HB := Lib.hid (fun W => digits_l (49 :: (Lib.cut l [46]).2.1) (by simp; omega) 4 (by omega) W)
  have hbl := hcl.2
  clear hcl
  cases hh : Lib.hasSuffix l [109]
  · rw [hh] at HS
    cases hp : (Lib.cut l [46]).2.2
    · have HM := Lib.hid (milliP_w hh hp)
      rw [hp] at HC
      clear hh hp HB HT
      generalize Lib.cut l [46] = ct at *
      obtain ⟨a, b, c⟩ := ct
      dsimp only at *
      have hd := digP_lt a 6
      generalize digP a 6 = d at *
      obtain ⟨dn, dk⟩ := d
      dsimp only at hd HM
      go_enter Tryd.func15, Tryd.ntmps15
      go_wp2_with fail
      refine HS.out.mono ?_
      rintro e w1 ⟨rfl, rfl⟩
      go_wp2_with fail
      refine HC.out.mono ?_
      rintro e w2 ⟨rfl, hb2⟩
      go_wp2_with fail
      refine (HA.out _).mono ?_
      rintro e w3 ⟨rfl, rfl⟩
      cases dk
      · go_wp2_with fail
        go_ret2
        exact RetNE.err (by rw [HM.out, fin_no]) (by omega) hb2
      · by_cases hbig : 1000 * (dn : Int) > 1000000
        · go_wp2_with fail
          go_ret2
          exact RetNE.err (by rw [HM.out, fin_big hbig]) (by omega) hb2
        · go_wp2_with fail
          go_ret2
          exact RetNE.nil (by rw [HM.out, fin_ok (by omega), Int.mul_comm]) hb2
    · have HM := Lib.hid (milliP_p hh hp)
      rw [hp] at HC
      clear hh hp HT
      generalize Lib.cut l [46] = ct at *
      obtain ⟨a, b, c⟩ := ct
      dsimp only at *
      have hd := digP_lt a 6
      have hk := digP_lt (49 :: b) 4
      unfold pointP at HM
      generalize digP a 6 = d at *
      generalize digP (49 :: b) 4 = g at *
      obtain ⟨dn, dk⟩ := d
      obtain ⟨gn, gk⟩ := g
      dsimp only at hd hk HM
      go_enter Tryd.func15, Tryd.ntmps15
      go_wp2_with fail
      refine HS.out.mono ?_
      rintro e w1 ⟨rfl, rfl⟩
      go_wp2_with fail
      refine HC.out.mono ?_
      rintro e w2 ⟨rfl, hb2⟩
      go_wp2_with fail
      refine (HA.out _).mono ?_
      rintro e w3 ⟨rfl, rfl⟩
      rw [← one_cons] at HB
      have hl1 : (⟨#[49]⟩ : ByteArray).size = 1 := rfl
      go_wp2_with fail
      refine (HB.out _).mono ?_
      rintro e w3 ⟨rfl, rfl⟩
      clear HS HC HA HB
      go_upto_region 10 with fail
      go_cut [5] (fun x wx => x = .bool (dk && gk && !b.isEmpty) ∧ wx = w2)
      case first =>
        cases dk
        · go_wp2_with fail
          go_meet
          exact ⟨rfl, rfl⟩
        · cases gk
          · go_wp2_with fail
            go_meet
            exact ⟨rfl, rfl⟩
          · go_wp2_with fail
            go_meet
            exact ⟨by cases b <;> simp, rfl⟩
      case rest =>
        obtain ⟨rfl, rfl⟩ := hcut
        generalize (dk && gk && !b.isEmpty) = ok at *
        obtain ⟨c, hc⟩ : ∃ c, 3 - min b.length 3 = c := ⟨_, rfl⟩
        rw [hc] at HM
        have hc3 : c ≤ 3 := by omega
        have hcq : (3 : Int) - min (b.length : Int) 3 = (c : Int) := by omega
        clear hc
        go_upto_region 12 with fail
        go_loop [11, 54] (fun k i => ∃ m q : Nat, i = .int .i64 m ∧ m ≤ c ∧ k = .int .i64 q ∧ q ≤ 10000000 ∧ Hid (q = gn * 10 ^ m)) (fun _ i => c - (intOf i).toNat)
        case atStart => exact ⟨0, gn, rfl, by omega, rfl, by omega, Lib.hid (by simp)⟩
        case round =>
          obtain ⟨m, q, rfl, hm, rfl, hq, hQ⟩ := hrel
          by_cases hlt : m < c
          · have hq2 : 10 * q ≤ 10000000 := by
              rw [hQ.out]
              have h1 : 10 ^ m ≤ 10 ^ 2 := Nat.pow_le_pow_right (by omega) (by omega)
              have h2 : gn * 10 ^ m ≤ 9999 * 10 ^ 2 := Nat.mul_le_mul (by omega) h1
              omega
            go_wp2_with fail
            go_round
            case rel => exact ⟨m + 1, 10 * q, by go_num, by omega, by go_num, hq2, Lib.hid (by rw [hQ.out, Nat.pow_succ, Nat.mul_comm 10, Nat.mul_assoc])⟩
            case measure => simp [intOf]; omega
          · obtain rfl : m = c := by omega
            have hqi : (gn : Int) * 10 ^ m = (q : Int) := by
              rw [hQ.out, Int.natCast_mul, Int.natCast_pow]; rfl
            rw [hqi] at HM
            cases ok
            · go_wp2_with fail
              go_ret2
              exact RetNE.err (by rw [HM.out, fin_no]) (by omega) hb2
            · by_cases hbig : 1000 * (dn : Int) + q - 1000 > 1000000
              · go_wp2_with fail
                go_ret2
                exact RetNE.err (by rw [HM.out, fin_big hbig]) (by omega) hb2
              · go_wp2_with fail
                go_ret2
                exact RetNE.nil (by rw [HM.out, fin_ok (by omega)]) hb2
  · have HM := Lib.hid (milliP_m hh)
    rw [hh] at HS
    clear hh HA HB HC
    generalize Lib.trimSuffix l [109] = t at *
    have hd := digP_lt t 9
    generalize digP t 9 = d at *
    obtain ⟨dn, dk⟩ := d
    dsimp only at hd HM
    go_enter Tryd.func15, Tryd.ntmps15
    go_wp2_with fail
    refine HS.out.mono ?_
    rintro e w1 ⟨rfl, rfl⟩
    go_wp2_with fail
    refine (HT.out _).mono ?_
    rintro e w3 ⟨rfl, rfl⟩
    cases dk
    · go_wp2_with fail
      go_ret2
      exact RetNE.err (by rw [HM.out, fin_no]) (by omega) (Below.refl _ _)
    · by_cases hbig : (dn : Int) > 1000000
      · go_wp2_with fail
        go_ret2
        exact RetNE.err (by rw [HM.out, fin_big hbig]) (by omega) (Below.refl _ _)
      · go_wp2_with fail
        go_ret2
        exact RetNE.nil (by rw [HM.out, fin_ok (by omega)]) (Below.refl _ _)
end
end Go.Proofs.YticmfflnenoplaaDoor
namespace Go.Proofs.YticmfflnenoplaaDoor
open Go.RowKit Am
def unitCells : Array Value := #[.string ⟨#[84, 105]⟩, .int .i64 1099511627776, .string ⟨#[71, 105]⟩, .int .i64 1073741824, .string ⟨#[77, 105]⟩, .int .i64 1048576, .string ⟨#[75, 105]⟩, .int .i64 1024, .string ⟨#[]⟩, .int .i64 1]
theorem units_any (w : World) : Calls Tryd.prog 36 #[] w (fun e w' => e = .returned (.slice (some ⟨w.heap.size, 0, none⟩) 5 5) ∧ Blk w' w.heap.size 80 unitCells ∧ Below w.heap.size w w' ∧ w'.heap.size = w.heap.size + 1) := by
  go_enter Tryd.func36, Tryd.ntmps36
  go_wp2_with fail
  go_ret
  exact ⟨rfl, Blk.new w _ _, (Below.refl _ _).alloc (Nat.le_refl _) _, by simp⟩
theorem unit_at (k : Nat) (hk : k < 5) : ∃ (nm : List UInt8) (sz : Nat), unitCells[k * 2]? = some (.string ⟨nm.toArray⟩) ∧ unitCells[k * 2 + 1]? = some (.int .i64 sz) ∧ 1 ≤ sz ∧ sz ≤ 1099511627776 ∧ nm.length ≤ 2 ∧
    (∀ s, bytesU s (units.drop k) = if Lib.hasSuffix s nm then byteP (Lib.trimSuffix s nm) sz else bytesU s (units.drop (k + 1))) ∧ (∀ n, textU n (units.drop k) = if 0 < n ∧ n % sz = 0 then Lib.itoa ((n / sz : Nat) : Int) ++ nm else textU n (units.drop (k + 1))) := by
  rcases (show k = 0 ∨ k = 1 ∨ k = 2 ∨ k = 3 ∨ k = 4 by omega) with rfl | rfl | rfl | rfl | rfl
  · exact ⟨[84, 105], 1099511627776, rfl, rfl, by omega, by omega, by simp, fun _ => rfl, fun _ => rfl⟩
  · exact ⟨[71, 105], 1073741824, rfl, rfl, by omega, by omega, by simp, fun _ => rfl, fun _ => rfl⟩
  · exact ⟨[77, 105], 1048576, rfl, rfl, by omega, by omega, by simp, fun _ => rfl, fun _ => rfl⟩
  · exact ⟨[75, 105], 1024, rfl, rfl, by omega, by omega, by simp, fun _ => rfl, fun _ => rfl⟩
  · exact ⟨[], 1, rfl, rfl, by omega, by omega, by simp, fun _ => rfl, fun _ => rfl⟩
theorem blk_at {w : World} {b : Nat} {T : TypeId} {arr : Array Value} (h : Blk w b T arr) (j : Nat) (v : Value) (hv : arr[j]? = some v) : w.cell? ⟨b, j, none⟩ = some v := by
  rw [← hv]
  exact h.cell j
theorem byteP_no {t : List UInt8} {size : Nat} {n : Nat} (h : digP t 16 = (n, false)) : byteP t size = (0, 4) := by simp [byteP, h]
theorem byteP_big {t : List UInt8} {size : Nat} {n : Nat} (h : digP t 16 = (n, true)) (hb : n > 1125899906842624 / size) : byteP t size = (0, 1) := by simp [byteP, h, hb]
theorem byteP_ok {t : List UInt8} {size : Nat} {n : Nat} (h : digP t 16 = (n, true)) (hb : ¬ n > 1125899906842624 / size) : byteP t size = ((n : Int) * size, 0) := by simp [byteP, h, hb]
theorem quo_max (size : Nat) : (1125899906842624 : Int).tdiv size = ((1125899906842624 / size : Nat) : Int) := by
  rw [Int.tdiv_eq_ediv_of_nonneg (by omega)]
  rfl
section
attribute [local irreducible] digP bytesU textU byteP Lib.trimSuffix Lib.hasSuffix unitCells units
set_option maxHeartbeats 1000000 in
theorem Bytes_any (s : ByteArray) (hs : s.size ≤ 100) (w : World) : Calls Tryd.prog 17 #[.string s] w (RetNE (bytesP s.data.toList) w) := by
  have HS := Lib.hid (fun (p : List UInt8) W => by simpa using Tryd.strings_CutSuffix s ⟨p.toArray⟩ W (by omega))
  have hsl : s.data.toList.length ≤ 100 := hs
  generalize s.data.toList = l at *
  have HT := Lib.hid (fun (p : List UInt8) W => digits_l (Lib.trimSuffix l p) (Nat.le_trans (trim_len l p) (by omega)) 16 (by omega) W)
  have HP := Lib.hid (show bytesP l = bytesU l (units.drop 0) by simp [bytesP])
  have HE := Lib.hid (show bytesU l (units.drop 5) = (0, 4) by unfold units bytesU; rfl)
  clear hsl hs
  go_enter Tryd.func17, Tryd.ntmps17
  go_wp2_with fail
  refine (units_any w).mono ?_
  rintro e w1 ⟨rfl, kb, hb1, hsz⟩
  go_upto_region 2 with fail
  go_loopw [12] (fun i wi => ∃ k : Nat, i = .int .i64 k ∧ k ≤ 5 ∧ Blk wi w.heap.size 80 unitCells ∧ Below w.heap.size w wi ∧ Hid (bytesP l = bytesU l (units.drop k))) (fun i _ => 5 - (intOf i).toNat)
  case atStart => exact ⟨0, rfl, by omega, kb, hb1, HP.out⟩
  case round =>
    clear kb hb1 hsz HP
    obtain ⟨k, rfl, hk, kb, hb, HP⟩ := hrel
    by_cases hlt : k < 5
    · obtain ⟨nm, sz, c0, c1, hz1, hz2, hnl, hbu, _⟩ := unit_at k hlt
      have e0 := blk_at kb _ _ c0
      have e1 := blk_at kb _ _ c1
      have HBU := Lib.hid (hbu l)
      have hkl := kb.lt
      clear c0 c1 hbu
      have hbn := hb.alloc hb.size (.cells #[.string ⟨nm.toArray⟩, .int .i64 sz] 80)
      have kbn := kb.alloc (.cells #[.string ⟨nm.toArray⟩, .int .i64 sz] 80)
      have hxl : nm.length ≤ 2 := hnl
      have HD := Lib.hid (HT.out nm)
      have HC := Lib.hid (HS.out nm)
      clear kb hb hnl
      cases hh : Lib.hasSuffix l nm
      · rw [hh] at HC HBU
        rw [if_neg (by simp)] at HBU
        clear hh HD
        go_wp2_with fail
        refine (HC.out _).mono ?_
        rintro e w2 ⟨rfl, rfl⟩
        go_wp2_with fail
        go_roundw
        case rel => exact ⟨k + 1, by go_num, by omega, kbn, hbn, Lib.hid (by rw [HP.out, HBU.out])⟩
        case measure => simp [intOf]; omega
      · rw [hh] at HC HBU
        rw [if_pos rfl] at HBU
        clear hh
        generalize Lib.trimSuffix l nm = t at *
        have hd := digP_lt t 16
        cases hdp : digP t 16 with
        | mk n ok =>
        rw [hdp] at hd HD
        dsimp only at hd
        have hq := quo_max sz
        cases ok
        · have HF := Lib.hid (byteP_no (size := sz) hdp)
          clear hdp
          go_wp2_with fail
          refine (HC.out _).mono ?_
          rintro e w2 ⟨rfl, rfl⟩
          go_wp2_with fail
          refine (HD.out _).mono ?_
          rintro e w3 ⟨rfl, rfl⟩
          go_wp2_with fail
          go_ret2
          exact RetNE.err (by rw [HP.out, HBU.out, HF.out]) (by omega) hbn
        · by_cases hbig : n > 1125899906842624 / sz
          · have HF := Lib.hid (byteP_big (size := sz) hdp hbig)
            clear hdp
            have hmx : 1125899906842624 / sz ≤ 1125899906842624 := Nat.div_le_self _ _
            generalize 1125899906842624 / sz = mx at *
            have hbi : (n : Int) > (mx : Int) := by omega
            go_wp2_with fail
            refine (HC.out _).mono ?_
            rintro e w2 ⟨rfl, rfl⟩
            go_wp2_with fail
            refine (HD.out _).mono ?_
            rintro e w3 ⟨rfl, rfl⟩
            go_wp2_with fail
            go_ret2
            exact RetNE.err (by rw [HP.out, HBU.out, HF.out]) (by omega) hbn
          · have HF := Lib.hid (byteP_ok (size := sz) hdp hbig)
            clear hdp
            have hmul : n * sz ≤ 1125899906842624 := by
              have := Nat.mul_le_mul_right sz (Nat.le_of_not_gt hbig)
              exact Nat.le_trans this (Nat.div_mul_le_self _ _)
            have hmi : (n : Int) * (sz : Int) ≤ 1125899906842624 := by
              have := Int.ofNat_le.2 hmul
              rw [Int.natCast_mul] at this
              exact this
            have hm0 : 0 ≤ (n : Int) * (sz : Int) := Int.mul_nonneg (by omega) (by omega)
            clear hmul
            have hmx : 1125899906842624 / sz ≤ 1125899906842624 := Nat.div_le_self _ _
            generalize 1125899906842624 / sz = mx at *
            have hbi : ¬ (n : Int) > (mx : Int) := by omega
            go_wp2_with fail
            refine (HC.out _).mono ?_
            rintro e w2 ⟨rfl, rfl⟩
            go_wp2_with fail
            refine (HD.out _).mono ?_
            rintro e w3 ⟨rfl, rfl⟩
            go_wp2_with fail
            go_ret2
            exact RetNE.nil (by rw [HP.out, HBU.out, HF.out]) hbn
    · obtain rfl : k = 5 := by omega
      go_wp2_with fail
      go_ret2
      exact RetNE.err (by rw [HP.out, HE.out]) (by omega) hb
theorem bytesT_at (n : Nat) : bytesT n = textU n (units.drop 0) := by simp [bytesT]
set_option maxHeartbeats 1000000 in
theorem BytesText_any (m : Nat) (h1 : m ≤ 1125899906842624) (w : World) (hL : Lay w) : Calls Tryd.prog 21 #[.int .i64 m] w (RetSE (bytesT m) 0 w) := by
  have HI := Lib.hid (fun (k : Nat) (hk : k ≤ 1125899906842624) W (hb : Below w.heap.size w W) => itoa_any k (by omega) (by omega) W (hL.below hb))
  have HT := Lib.hid (fun (k : Nat) (hk : k ≤ 1125899906842624) => itoa_len k (by omega) (by omega))
  have HP := Lib.hid (bytesT_at m)
  have HE := Lib.hid (show textU m (units.drop 5) = [48] by unfold units textU; rfl)
  clear hL
  go_enter Tryd.func21, Tryd.ntmps21
  go_wp2_with fail
  refine (units_any w).mono ?_
  rintro e w1 ⟨rfl, kb, hb1, hsz⟩
  go_upto_region 4 with fail
  go_loopw [15] (fun i wi => ∃ k : Nat, i = .int .i64 k ∧ k ≤ 5 ∧ Blk wi w.heap.size 80 unitCells ∧ Below w.heap.size w wi ∧ Hid (bytesT m = textU m (units.drop k))) (fun i _ => 5 - (intOf i).toNat)
  case atStart => exact ⟨0, rfl, by omega, kb, hb1, HP.out⟩
  case round =>
    clear kb hb1 hsz HP
    obtain ⟨k, rfl, hk, kb, hb, HP⟩ := hrel
    by_cases hlt : k < 5
    · obtain ⟨nm, sz, c0, c1, hz1, hz2, hnl, _, htu⟩ := unit_at k hlt
      have e0 := blk_at kb _ _ c0
      have e1 := blk_at kb _ _ c1
      have HTU := Lib.hid (htu m)
      have hkl := kb.lt
      clear c0 c1 htu
      have hbn := hb.alloc hb.size (.cells #[.string ⟨nm.toArray⟩, .int .i64 sz] 80)
      have kbn := kb.alloc (.cells #[.string ⟨nm.toArray⟩, .int .i64 sz] 80)
      clear kb hb
      have hrm : (m : Int).tmod sz = ((m % sz : Nat) : Int) := by
        rw [Int.tmod_eq_emod_of_nonneg (by omega)]
        rfl
      by_cases hc : 0 < m ∧ m % sz = 0
      · rw [if_pos hc] at HTU
        obtain ⟨hc1, hc2⟩ := hc
        rw [hc2] at hrm
        have hdl : m / sz ≤ 1125899906842624 := Nat.le_trans (Nat.div_le_self _ _) h1
        have hdv : (m : Int).tdiv sz = ((m / sz : Nat) : Int) := by
          rw [Int.tdiv_eq_ediv_of_nonneg (by omega)]
          rfl
        have hl := HT.out (m / sz) hdl
        have HD := Lib.hid (fun W (hb : Below w.heap.size w W) => HI.out (m / sz) hdl W hb)
        generalize m / sz = d at *
        go_upto_region 7 with fail
        have ku := Blk.new wr 80 #[.string ⟨nm.toArray⟩, .int .i64 sz]
        generalize wr.alloc (.cells #[.string ⟨nm.toArray⟩, .int .i64 sz] 80) = wu at *
        generalize wr.heap.size = pb at *
        have lu := ku.lt
        have u0 := blk_at ku 0 _ rfl
        have u1 := blk_at ku 1 _ rfl
        have hI : Below wu.heap.size wu wu.drew := (Below.refl _ _).drew
        clear e0 e1 kbn
        refine Flo.region 7 [(0, true), (1, true), (2, true), (3, true), (5, true), (6, true), (4, false)] (fun v => Below wu.heap.size wu v) (by kernel_rfl) (by kernel_rfl) rfl hI ?_
        simp only [List.drop_succ_cons, List.drop_zero]
        iterate 6 (apply Flo.op rfl (hI := hI); (· intro v hv K hK; obtain ⟨hc, hf⟩ := Flo.bcl hv; go_wp2_with fail; all_goals first | exact Flo.noUndef (by with_reducible assumption) | exact hK); (· rfl))
        refine Flo.seq rfl fun K hK => ?_
        go_wp2_with fail
        refine (HD.out _ hbn.drew).mono ?_
        rintro e w3 ⟨rfl, hb3⟩
        generalize Lib.itoa (d : Int) = t at *
        go_wp2_with fail
        refine hK _ _ (hI.trans (hb3.mono hI.size)) ?_
        refine Flo.tail fun K hK => ?_
        go_wp2_with fail
        go_ret2
        exact ⟨by rw [HP.out, HTU.out]; rfl, hbn.drew.trans (hb3.mono hbn.drew.size)⟩
      · rw [if_neg hc] at HTU
        by_cases h0 : 0 < m
        · have hr0 : (((m % sz : Nat) : Int) == 0) = false := by rw [beq_eq_false_iff_ne]; omega
          have hrl : m % sz ≤ 1125899906842624 := Nat.le_trans (Nat.mod_le _ _) h1
          generalize m % sz = r at *
          clear hc
          go_wp2_with fail
          go_roundw
          case rel => exact ⟨k + 1, by go_num, by omega, kbn, hbn, Lib.hid (by rw [HP.out, HTU.out])⟩
          case measure => simp [intOf]; omega
        · clear hc
          go_wp2_with fail
          go_roundw
          case rel => exact ⟨k + 1, by go_num, by omega, kbn, hbn, Lib.hid (by rw [HP.out, HTU.out])⟩
          case measure => simp [intOf]; omega
    · obtain rfl : k = 5 := by omega
      go_wp2_with fail
      go_ret2
      exact ⟨by rw [HP.out, HE.out]; rfl, hb⟩
set_option maxHeartbeats 1000000 in
theorem BytesText_bad (n : Int) (h : n < 0 ∨ 1125899906842624 < n) (w : World) : Calls Tryd.prog 21 #[.int .i64 n] w (RetSE [] 1 w) := by
  rcases h with h | h
  · go_enter Tryd.func21, Tryd.ntmps21
    go_wp2_with fail
    go_ret2
    exact ⟨rfl, Below.refl _ _⟩
  · have h2 : ¬ n < 0 := by omega
    go_enter Tryd.func21, Tryd.ntmps21
    go_wp2_with fail
    go_ret2
    exact ⟨rfl, Below.refl _ _⟩
end
end Go.Proofs.YticmfflnenoplaaDoor
namespace Go.Proofs.YticmfflnenoplaaDoor.Flo

section
variable {P : Program} {ops : Array Oper} {md : Region.Mode} {I : World → Prop}
def walkL (md : Region.Mode) (ops : Array Oper) : List Nat → Array Bool → Array Bool → Bool
  | [], L, listed => decide (listed = L)
  | k :: rest, L, listed => (Region.ready md ops listed).contains k && Region.free md ops listed k && walkL md ops rest L (listed.setIfInBounds k true)
def wpFs (P : Program) (ops : Array Oper) (I : World → Prop) (Q : Act → World → Prop) (l : List Nat) : Act → World → Prop := wpFl P ops I Q (l.map fun k => (k, true))

theorem anyI_floats {n g : Nat} {B : Array Nat} {L : Array Bool} {Q : Act → World → Prop} (hsel : Region.noSelect ops = true) (hB : ancB md ops B = true) :
    ∀ (hd : List Nat) (listed : Array Bool) (a : Act) (w : World), floats n ops B (hd.map fun k => (k, true)) = true → walkL md ops hd L listed = true → Closed md ops listed → I w → wpFs P ops I (anyI P md ops I n Q g L) hd a w → anyI P md ops I n Q (hd.length + g) listed a w
  | [], listed, a, w, _, hw, _, _, h => by
    simp only [List.length_nil, Nat.zero_add]
    simp only [walkL, decide_eq_true_eq] at hw
    subst hw
    exact h
  | k :: rest, listed, a, w, hfl, hw, inv, hI, h => by
    obtain ⟨o, v, ho, hy, h⟩ := h
    simp only [walkL, Bool.and_eq_true] at hw
    obtain ⟨⟨hr, hf⟩, hw⟩ := hw
    have hr' : k ∈ Region.ready md ops listed := by simpa using hr
    simp only [floats, List.map_cons, List.all_cons, Bool.and_eq_true, Bool.not_true, Bool.false_or] at hfl
    have hanc : ∀ t, n ≤ t → t < ops.size → (B.getD t 0).testBit k = true := fun t h1 h2 => by
      have := List.all_eq_true.1 hfl.1 t (List.mem_range.2 h2)
      simp only [Bool.or_eq_true, decide_eq_true_eq] at this
      rcases this with this | this
      · omega
      · exact this
    have := anyI_first ho (Region.noSelect_spec hsel) hB hanc (rest.length + g) listed a w inv hI (Region.free_spec ho hf) hr' hy
      (anyI_floats hsel hB rest _ _ _ hfl.2 hw (inv.set hr') hI h)
    rw [show (k :: rest).length + g = rest.length + g + 1 by simp; omega]
    exact this

def brB (ops : Array Oper) (hd : List Nat) (n : Nat) (L : Array Bool) : Bool :=
  Region.noSelect ops && ancB .any ops (Region.before ops) && floats n ops (Region.before ops) (hd.map fun k => (k, true)) && walkL .any ops hd L (Array.replicate ops.size false)
end

section
variable {P : Program} {I : World → Prop} {a : Act} {w : World} {l : List Oper}
/-- The region: hd: what floats, first; L: what is listed behind it; n: the first of the tail; g: how many are left. -/
theorem regionBr {id : Nat} {Q : Exit → Act → World → Prop} (n g : Nat) (hd : List Nat) (L : Array Bool) (I : World → Prop) (hm : P.follows .mixedOrders = true) (hB : brB l.toArray hd n L = true) (hl : hd.length + g = l.length) (hI : I w.drew)
    (h : wpFs P l.toArray I (anyI P .any l.toArray I n (Q .normal) g L) hd a w.drew) : (Code.region id l.toArray true).wp P Q a w := by
  simp only [brB, Bool.and_eq_true] at hB
  obtain ⟨⟨⟨hsel, hanc⟩, hfl⟩, hw⟩ := hB
  refine wp_region_any hm (any_of_anyI (I := I) (n := n) _ _ _ _ ?_)
  have := anyI_floats (P := P) (I := I) (g := g) (Q := Q .normal) hsel hanc hd (Array.replicate l.toArray.size false) a w.drew hfl hw ⟨by simp, fun j oj _ hl => by rw [getD_replicate_false] at hl; cases hl⟩ hI h
  rw [hl] at this
  simpa using this

variable {ops : Array Oper} {Q : Act → World → Prop} {n g : Nat} {L : Array Bool}
theorem br1 {i : Nat} {oi : Oper} (hr : Region.ready .any ops L = [i]) (hi : ops[i]? = some oi)
    (h : ∀ K : Act → World → Prop, (∀ a' w', (i < n → I w') → anyI P .any ops I n Q g (L.setIfInBounds i true) a' w' → K a' w') → wpList P ops (Exit.then K QF) [oi] a w) : anyI P .any ops I n Q (g + 1) L a w := by
  refine ⟨by rw [hr]; simp, fun k hk => ?_⟩
  rw [hr] at hk
  obtain rfl : k = i := by simpa using hk
  exact ⟨oi, hi, opN_of_list (h _ fun _ _ h1 h2 => ⟨h1, h2⟩)⟩
theorem br2 {i j : Nat} {oi oj : Oper} (hr : Region.ready .any ops L = [i, j]) (hi : ops[i]? = some oi) (hj : ops[j]? = some oj)
    (h : ∀ K : Act → World → Prop, (∀ a' w', (i < n → I w') → anyI P .any ops I n Q g (L.setIfInBounds i true) a' w' → K a' w') → wpList P ops (Exit.then K QF) [oi] a w)
    (h2 : ∀ K : Act → World → Prop, (∀ a' w', (j < n → I w') → anyI P .any ops I n Q g (L.setIfInBounds j true) a' w' → K a' w') → wpList P ops (Exit.then K QF) [oj] a w) : anyI P .any ops I n Q (g + 1) L a w := by
  refine ⟨by rw [hr]; simp, fun k hk => ?_⟩
  rw [hr] at hk
  simp only [List.mem_cons, List.not_mem_nil, or_false] at hk
  rcases hk with rfl | rfl
  · exact ⟨oi, hi, opN_of_list (h _ fun _ _ h1 h2 => ⟨h1, h2⟩)⟩
  · exact ⟨oj, hj, opN_of_list (h2 _ fun _ _ h1 h2 => ⟨h1, h2⟩)⟩
theorem br3 {i j m : Nat} {oi oj om : Oper} (hr : Region.ready .any ops L = [i, j, m]) (hi : ops[i]? = some oi) (hj : ops[j]? = some oj) (hm : ops[m]? = some om)
    (h : ∀ K : Act → World → Prop, (∀ a' w', (i < n → I w') → anyI P .any ops I n Q g (L.setIfInBounds i true) a' w' → K a' w') → wpList P ops (Exit.then K QF) [oi] a w)
    (h2 : ∀ K : Act → World → Prop, (∀ a' w', (j < n → I w') → anyI P .any ops I n Q g (L.setIfInBounds j true) a' w' → K a' w') → wpList P ops (Exit.then K QF) [oj] a w)
    (h3 : ∀ K : Act → World → Prop, (∀ a' w', (m < n → I w') → anyI P .any ops I n Q g (L.setIfInBounds m true) a' w' → K a' w') → wpList P ops (Exit.then K QF) [om] a w) : anyI P .any ops I n Q (g + 1) L a w := by
  refine ⟨by rw [hr]; simp, fun k hk => ?_⟩
  rw [hr] at hk
  simp only [List.mem_cons, List.not_mem_nil, or_false] at hk
  rcases hk with rfl | rfl | rfl
  · exact ⟨oi, hi, opN_of_list (h _ fun _ _ h1 h2 => ⟨h1, h2⟩)⟩
  · exact ⟨oj, hj, opN_of_list (h2 _ fun _ _ h1 h2 => ⟨h1, h2⟩)⟩
  · exact ⟨om, hm, opN_of_list (h3 _ fun _ _ h1 h2 => ⟨h1, h2⟩)⟩
theorem brEnd (hr : Region.ready .any ops L = []) (h : Q a w) : anyI P .any ops I n Q 0 L a w := ⟨hr, h⟩
end
end Go.Proofs.YticmfflnenoplaaDoor.Flo
namespace Go.Proofs.YticmfflnenoplaaDoor
open Go.RowKit Am
def dg8 (k : Nat) : UInt8 := UInt8.ofNat (48 + k)
theorem dec_lo (n : Nat) (h : n < 10) : Lib.decDigits n = [dg8 n] := by rw [Lib.decDigits, dif_pos h]; rfl
theorem dec_hi (n : Nat) (h : ¬ n < 10) : Lib.decDigits n = Lib.decDigits (n / 10) ++ [dg8 (n % 10)] := by rw [Lib.decDigits, dif_neg h]; rfl
theorem ofNat48 (k : Nat) (h : k < 10) : (dg8 k).toNat = 48 + k := by
  unfold dg8
  rw [UInt8.toNat_ofNat']
  omega
theorem conv_byte (v : World) (b k : Nat) (h : k < 10) (hc : v.cell? ⟨b, 0, none⟩ = some (.int .u8 (48 + (k : Int)))) : (convert 90 9 (.slice (some ⟨b, 0, none⟩) 1 1)).run Tryd.prog v = .ok (.string ⟨#[dg8 k]⟩) v := by
  refine Lib.run_convert_whole v 90 5 9 Tryd.underlying90 Tryd.underlying5 Tryd.underlying9 b 0 ⟨#[dg8 k]⟩ ?_ 1
  intro i hi
  obtain rfl : i = 0 := by simp [ByteArray.size] at hi; exact hi
  rw [Nat.add_zero, hc]
  congr 2
  show _ = ((dg8 k).toNat : Int)
  rw [ofNat48 k h]
  omega
section
attribute [local irreducible] dg8
set_option maxRecDepth 100000 in
set_option maxHeartbeats 600000 in
theorem Decimal_any (n : Nat) : n ≤ 1125899906842624 → ∀ w, Calls Tryd.prog 37 #[.int .i64 n] w (fun e w' => e = .returned (.string ⟨(Lib.decDigits n).toArray⟩) ∧ Below w.heap.size w w') := by
  induction n using Nat.strongRecOn with
  | _ n ih =>
    intro hn w
    by_cases h : n < 10
    · have HD := Lib.hid (dec_lo n h)
      clear ih
      go_enter Tryd.func37, Tryd.ntmps37
      have kb := Blk.new w 5 #[.int .u8 (48 + (n : Int))]
      have hcv := conv_byte _ w.heap.size n h (blk_at kb 0 _ rfl)
      have hb1 : Below w.heap.size w (w.alloc (.cells #[.int .u8 (48 + (n : Int))] 5)) := (Below.refl _ _).alloc (Nat.le_refl _) _
      go_wp2_with fail
      go_ret
      exact ⟨by rw [HD.out]; rfl, hb1⟩
    · have HD := Lib.hid (dec_hi n h)
      have hi := ih (n / 10) (by omega) (by omega)
      have HI := Lib.hid hi
      have hlen : (Lib.decDigits (n / 10)).length ≤ 16 := dec_len (n / 10) 16 (by omega) (by omega)
      clear ih hi
      go_enter Tryd.func37, Tryd.ntmps37
      go_upto_region 5 with fail
      have hI : Below w.heap.size w w.drew := (Below.refl _ _).drew
      refine Flo.regionBr 9 5 [0, 1, 3, 4, 5, 6] #[true, true, false, true, true, true, true, false, false, false, false] (fun v => Below w.heap.size w v) (by kernel_rfl) (by kernel_rfl) rfl hI ?_
      unfold Flo.wpFs
      simp only [List.map_cons, List.map_nil]
      iterate 6 (apply Flo.op rfl (hI := hI); (· intro v hv K hK; obtain ⟨hc, hf⟩ := Flo.bcl hv; go_wp2_with fail; all_goals first | exact Flo.noUndef (by with_reducible assumption) | exact hK); (· rfl))
      refine Flo.nil ?_
      refine Flo.br2 (i := 2) (j := 7) (by kernel_rfl) rfl rfl (fun K hK => ?_) (fun K hK => ?_)
      · go_wp2_with fail
        refine (HI.out _).mono ?_
        rintro e v1 ⟨rfl, hb1⟩
        go_wp2_with fail
        have hI1 : Below w.heap.size w v1 := hI.trans (hb1.mono hI.size)
        refine hK _ _ (fun _ => hI1) ?_
        clear hK
        refine Flo.br1 (i := 7) (by kernel_rfl) rfl (fun K hK => ?_)
        go_wp2_with fail
        have hI2 : Below w.heap.size w (v1.alloc (.cells #[.int .u8 (48 + (n : Int) % 10)] 5)) := hI1.alloc hI1.size _
        have kb := Blk.new v1 5 #[.int .u8 (48 + (n : Int) % 10)]
        refine hK _ _ (fun _ => hI2) ?_
        clear hK
        have hcv := conv_byte _ v1.heap.size (n % 10) (by omega) (by rw [blk_at kb 0 _ rfl]; simp)
        clear kb
        generalize v1.alloc (.cells #[.int .u8 (48 + (n : Int) % 10)] 5) = v2 at *
        refine Flo.br1 (i := 8) (by kernel_rfl) rfl (fun K hK => ?_)
        go_wp2_with fail
        refine hK _ _ (fun _ => hI2) ?_
        clear hK
        refine Flo.br1 (i := 9) (by kernel_rfl) rfl (fun K hK => ?_)
        go_wp2_with fail
        refine hK _ _ (fun h => absurd h (by omega)) ?_
        refine Flo.br1 (i := 10) (by kernel_rfl) rfl (fun K hK => ?_)
        go_wp2_with fail
        refine hK _ _ (fun h => absurd h (by omega)) ?_
        refine Flo.brEnd (by kernel_rfl) ?_
        go_wp2_with fail
        go_ret
        exact ⟨by rw [HD.out]; rfl, hI2⟩
      · go_wp2_with fail
        have hI2 : Below w.heap.size w (w.alloc (.cells #[.int .u8 (48 + (n : Int) % 10)] 5)).drew := ((Below.refl _ _).alloc (Nat.le_refl _) _).drew
        have kb := (Blk.new w 5 #[.int .u8 (48 + (n : Int) % 10)]).drew
        refine hK _ _ (fun _ => hI2) ?_
        clear hK
        generalize (w.alloc (.cells #[.int .u8 (48 + (n : Int) % 10)] 5)).drew = v2 at *
        refine Flo.br2 (i := 2) (j := 8) (by kernel_rfl) rfl rfl (fun K hK => ?_) (fun K hK => ?_)
        · go_wp2_with fail
          refine (HI.out _).mono ?_
          rintro e v3 ⟨rfl, hb3⟩
          go_wp2_with fail
          have hI3 : Below w.heap.size w v3 := hI2.trans (hb3.mono hI2.size)
          have kb3 := kb.below hb3 kb.lt
          refine hK _ _ (fun _ => hI3) ?_
          clear hK
          have hcv := conv_byte _ w.heap.size (n % 10) (by omega) (by rw [blk_at kb3 0 _ rfl]; simp)
          refine Flo.br1 (i := 8) (by kernel_rfl) rfl (fun K hK => ?_)
          go_wp2_with fail
          refine hK _ _ (fun _ => hI3) ?_
          clear hK
          refine Flo.br1 (i := 9) (by kernel_rfl) rfl (fun K hK => ?_)
          go_wp2_with fail
          refine hK _ _ (fun h => absurd h (by omega)) ?_
          refine Flo.br1 (i := 10) (by kernel_rfl) rfl (fun K hK => ?_)
          go_wp2_with fail
          refine hK _ _ (fun h => absurd h (by omega)) ?_
          refine Flo.brEnd (by kernel_rfl) ?_
          go_wp2_with fail
          go_ret
          exact ⟨by rw [HD.out]; rfl, hI3⟩
        · have hcv := conv_byte _ w.heap.size (n % 10) (by omega) (by rw [blk_at kb 0 _ rfl]; simp)
          go_wp2_with fail
          refine hK _ _ (fun _ => hI2) ?_
          clear hK
          refine Flo.br1 (i := 2) (by kernel_rfl) rfl (fun K hK => ?_)
          go_wp2_with fail
          refine (HI.out _).mono ?_
          rintro e v3 ⟨rfl, hb3⟩
          go_wp2_with fail
          have hI3 : Below w.heap.size w v3 := hI2.trans (hb3.mono hI2.size)
          refine hK _ _ (fun _ => hI3) ?_
          clear hK
          refine Flo.br1 (i := 9) (by kernel_rfl) rfl (fun K hK => ?_)
          go_wp2_with fail
          refine hK _ _ (fun h => absurd h (by omega)) ?_
          refine Flo.br1 (i := 10) (by kernel_rfl) rfl (fun K hK => ?_)
          go_wp2_with fail
          refine hK _ _ (fun h => absurd h (by omega)) ?_
          refine Flo.brEnd (by kernel_rfl) ?_
          go_wp2_with fail
          go_ret
          exact ⟨by rw [HD.out]; rfl, hI3⟩
end
end Go.Proofs.YticmfflnenoplaaDoor
namespace Go.Proofs.YticmfflnenoplaaDoor
open Go.RowKit Go.Deep Pop Bi
theorem strT : ElemT Tryd.prog 81 9 (.string ⟨#[]⟩) 1 16 := ⟨Tryd.underlying81, by kernel_rfl, rfl, by omega⟩
theorem str_app (a b : List UInt8) : (⟨a.toArray⟩ : ByteArray) ++ ⟨b.toArray⟩ = ⟨(a ++ b).toArray⟩ := by
  apply Go.WideShapes.bytes_inj
  simp
namespace Bi
theorem hasF_nat {x n : Nat} (hx : x < 18446744073709551616) : hasF x n = inS x n := by
  rcases Nat.lt_or_ge n 64 with h | h
  · exact hasF_at h
  · rw [hasF_out (.inr (by omega)), bit_high hx h]
/-- The texts of spans, as they lie in memory. -/
def textsV (ps : List (Nat × Nat)) : List Value := ps.map fun p => Value.string ⟨(spanT p).toArray⟩
theorem textsV_nil : textsV [] = [] := rfl
theorem textsV_snoc (ps : List (Nat × Nat)) (p : Nat × Nat) : textsV (ps ++ [p]) = textsV ps ++ [.string ⟨(spanT p).toArray⟩] := by simp [textsV]
theorem itoa2 {n : Nat} (h : n < 64) : (Lib.itoa (n : Int)).length ≤ 2 := by
  rw [Am.itoa_nat]
  exact Am.dec_len n 2 (by omega) (by omega)
theorem spanT_len {p : Nat × Nat} (h1 : p.1 < 64) (h2 : p.2 < 64) : (spanT p).length ≤ 5 := by
  have := itoa2 h1
  have := itoa2 h2
  unfold spanT
  split
  · simp only [List.length_append, List.length_cons]; omega
  · simp only [List.length_append, List.length_nil]; omega
theorem join_len {ps : List (Nat × Nat)} (h : ∀ p ∈ ps, p.1 < 64 ∧ p.2 < 64) : (Lib.join (ps.map spanT) [44]).length ≤ 6 * ps.length := by
  induction ps with
  | nil => simp [Lib.join, List.intercalate]
  | cons p ps ih =>
    have h1 := spanT_len (h p (by simp)).1 (h p (by simp)).2
    have h2 := ih fun q hq => h q (by simp [hq])
    cases ps with
    | nil => simp [Lib.join, List.intercalate]; omega
    | cons q ps =>
      have e : Lib.join ((p :: q :: ps).map spanT) [44] = spanT p ++ 44 :: Lib.join ((q :: ps).map spanT) [44] := by simp [Lib.join, List.intercalate]
      rw [e]
      simp only [List.length_append, List.length_cons] at h2 ⊢
      omega
end Bi
def RetT (l : List UInt8) (w : World) (e : Ending) (w' : World) : Prop := e = .returned (.string ⟨l.toArray⟩) ∧ Below w.heap.size w w'
theorem RetT.of {l m : List UInt8} {w w' : World} (h : l = m) (hb : Below w.heap.size w w') : RetT l w (.returned (.string ⟨m.toArray⟩)) w' := by subst h; exact ⟨rfl, hb⟩
section
attribute [local irreducible] inS spans endR spanT textsV Lib.itoa Lib.join hasF
end
end Go.Proofs.YticmfflnenoplaaDoor
namespace Go.Proofs.YticmfflnenoplaaDoor
open Go.RowKit Go.Deep Pop Bi
namespace Bi
theorem map_nil_iff {ps : List (Nat × Nat)} : (ps.map spanT = []) ↔ ps = [] := List.map_eq_nil_iff
theorem itoa_pos (n : Nat) (h : n < 64) : 0 < (Lib.itoa (n : Int)).length := by
  rw [Am.itoa_nat]
  rcases Nat.eq_zero_or_pos (Lib.decDigits n).length with h | h
  · have := List.length_eq_zero_iff.1 h
    have h2 : ∀ m : Nat, m < 64 → Lib.decDigits m ≠ [] := by decide +kernel
    exact absurd this (h2 n (by assumption))
  · exact h
theorem spanT_pos {p : Nat × Nat} (h : p.1 < 64) : 0 < (spanT p).length := by
  have := itoa_pos p.1 h
  unfold spanT
  rw [List.length_append]
  omega
theorem join_pos {ps : List (Nat × Nat)} (hp : ∀ p ∈ ps, p.1 < 64 ∧ p.2 < 64) (h : ps ≠ []) : 0 < (Lib.join (ps.map spanT) [44]).length := by
  cases ps with
  | nil => exact absurd rfl h
  | cons p ps =>
    have h1 := spanT_pos (hp p (by simp)).1
    cases ps with
    | nil => simpa [Lib.join, List.intercalate] using h1
    | cons q ps =>
      have e : Lib.join ((p :: q :: ps).map spanT) [44] = spanT p ++ 44 :: Lib.join ((q :: ps).map spanT) [44] := by simp [Lib.join, List.intercalate]
      rw [e, List.length_append]
      omega
/-- The text so far, and one more span. -/
theorem text_more {ps : List (Nat × Nat)} {p : Nat × Nat} : Lib.join ((ps ++ [p]).map spanT) [44] = if ps = [] then spanT p else Lib.join (ps.map spanT) [44] ++ 44 :: spanT p := by
  rw [List.map_append, List.map_cons, List.map_nil, join_snoc]
  simp only [map_nil_iff]
end Bi
theorem str_isE (l : List UInt8) (h : 0 < l.length) : ((⟨l.toArray⟩ : ByteArray).toList.isEmpty) = false := by
  rw [ByteArray.toList_eq]
  cases l with
  | nil => simp at h
  | cons a l => rfl
theorem tx_one {T : ByteArray} {J : List UInt8} (b : UInt8) (t : List UInt8) (hT : T = ⟨J.toArray⟩) : (T ++ ⟨#[b]⟩) ++ ⟨t.toArray⟩ = ⟨(J ++ b :: t).toArray⟩ := by
  rw [hT, show (⟨#[b]⟩ : ByteArray) = ⟨[b].toArray⟩ from rfl, str_app, str_app]
  simp
theorem tx_nil (t : List UInt8) : (⟨#[]⟩ : ByteArray) ++ ⟨t.toArray⟩ = ⟨t.toArray⟩ := by
  rw [show (⟨#[]⟩ : ByteArray) = ⟨([] : List UInt8).toArray⟩ from rfl, str_app]
  rfl
theorem str_size (l : List UInt8) : (⟨l.toArray⟩ : ByteArray).size = l.length := rfl
section
attribute [local irreducible] inS spans endR spanT Lib.itoa Lib.join
end
end Go.Proofs.YticmfflnenoplaaDoor
namespace Go.Proofs.YticmfflnenoplaaDoor
open Am
namespace Bi
/-- Is it a number as it is written, with room in an int? -/
def numB (a : List UInt8) : Bool := okD a && decide (num a ≤ 9223372036854775807)
theorem okD_cons {a : List UInt8} (h : okD a = true) : ∃ c r, a = c :: r ∧ isD c = true ∧ (r ≠ [] → c ≠ 48) := by
  cases a with
  | nil => simp [okD, lead] at h
  | cons c r =>
    have ha := okD_all h
    simp only [List.all_cons, Bool.and_eq_true] at ha
    refine ⟨c, r, rfl, ha.1, fun hr hc => ?_⟩
    subst hc
    cases r with
    | nil => exact hr rfl
    | cons d r => simp [okD, lead] at h
theorem parse_num : ∀ (l : List UInt8) (acc : Nat), l.all isD = true → valD l acc ≤ 9223372036854775807 → Lib.parseUint10 acc l = .ok (valD l acc)
  | [], acc, _, _ => rfl
  | c :: r, acc, h, hb => by
    simp only [List.all_cons, Bool.and_eq_true] at h
    have hc := isD_le h.1
    have hmono : ∀ (l : List UInt8) (n : Nat), n ≤ valD l n := by
      intro l
      induction l with
      | nil => intro n; exact Nat.le_refl _
      | cons d l ih => intro n; have := ih (10 * n + (d.toNat - 48)); simp only [valD]; omega
    have h1 : valD (c :: r) acc = valD r (10 * acc + (c.toNat - 48)) := rfl
    have h2 := hmono r (10 * acc + (c.toNat - 48))
    rw [h1] at hb ⊢
    rw [Lib.parseUint10, if_pos hc, if_neg (by omega), if_neg (by omega), show acc * 10 + (c.toNat - 48) = 10 * acc + (c.toNat - 48) by omega]
    exact parse_num r _ h.2 hb
theorem atoi_num {a : List UInt8} (h : numB a = true) : Lib.atoiAll a = .ok (num a : Int) := by
  simp only [numB, Bool.and_eq_true, decide_eq_true_eq] at h
  obtain ⟨c, r, rfl, hc, _⟩ := okD_cons h.1
  have hcd := isD_le hc
  rw [Lib.atoiAll_plain c r (by omega) (by omega), Lib.parseMag, if_neg (by simp), parse_num _ 0 (okD_all h.1) h.2]
  simp only [Lib.signless]
  rw [if_neg (by have : num (c :: r) = valD (c :: r) 0 := rfl; omega)]
  rfl
theorem dec_num : ∀ (n : Nat) (a : List UInt8), a.length = n → okD a = true → Lib.decDigits (num a) = a
  | 0, a, hl, h => by
    obtain rfl := List.length_eq_zero_iff.1 hl
    simp [okD, lead] at h
  | n + 1, a, hl, h => by
    have hall := okD_all h
    have hne : a ≠ [] := by intro he; rw [he] at hl; simp at hl
    obtain ⟨l, d, rfl⟩ : ∃ l d, a = l ++ [d] := ⟨a.dropLast, a.getLast hne, (List.dropLast_concat_getLast hne).symm⟩
    simp only [List.all_append, List.all_cons, List.all_nil, Bool.and_true, Bool.and_eq_true] at hall
    have hd := isD_le hall.2
    have e48 : UInt8.ofNat (48 + (d.toNat - 48)) = d := by
      apply UInt8.toNat_inj.1
      rw [UInt8.toNat_ofNat']
      omega
    rw [num_snoc]
    cases l with
    | nil =>
      have : 10 * num [] + (d.toNat - 48) = d.toNat - 48 := by simp [num, valD]
      rw [this, Lib.decDigits, dif_pos (by omega), e48]
      rfl
    | cons c l =>
      have hc48 : c ≠ 48 := by
        obtain ⟨c', r, he, _, hc⟩ := okD_cons h
        simp only [List.cons_append, List.cons.injEq] at he
        obtain ⟨rfl, rfl⟩ := he
        exact hc (by simp)
      have hok : okD (c :: l) = true := by
        have : ¬ (c = 48) := hc48
        simp only [okD, lead, List.isEmpty_cons, List.head?_cons, Bool.false_or, Bool.and_eq_true]
        exact ⟨by simp [this], hall.1⟩
      have hpos : 0 < num (c :: l) := by
        have hcd := isD_le (List.all_eq_true.1 hall.1 c (by simp))
        have hc0 : c.toNat ≠ 48 := fun e => hc48 (UInt8.toNat_inj.1 e)
        have hmono : ∀ (l : List UInt8) (n : Nat), n ≤ valD l n := by
          intro l
          induction l with
          | nil => intro n; exact Nat.le_refl _
          | cons d l ih => intro n; have := ih (10 * n + (d.toNat - 48)); simp only [valD]; omega
        have := hmono l (10 * 0 + (c.toNat - 48))
        show 0 < valD l (10 * 0 + (c.toNat - 48))
        omega
      have ih := dec_num n (c :: l) (by simpa using hl) hok
      rw [Lib.decDigits, dif_neg (by omega)]
      rw [show (10 * num (c :: l) + (d.toNat - 48)) / 10 = num (c :: l) by omega, show (10 * num (c :: l) + (d.toNat - 48)) % 10 = d.toNat - 48 by omega, ih, e48]
theorem itoa_num {a : List UInt8} (h : okD a = true) : Lib.itoa (num a : Int) = a := by rw [itoa_nat]; exact dec_num _ a rfl h
/-- What is read as a number and written again. -/
theorem numB_of {a : List UInt8} {v : Int} (h : Lib.atoiAll a = .ok v) : numB a = (decide (Lib.itoa v = a) && decide (0 ≤ v)) := by
  have hb := Lib.atoiAll_bounds h
  rw [Bool.eq_iff_iff, Bool.and_eq_true, decide_eq_true_eq, decide_eq_true_eq]
  constructor
  · intro hn
    have := atoi_num hn
    rw [h] at this
    injection this with hv
    simp only [numB, Bool.and_eq_true] at hn
    exact ⟨by rw [hv]; exact itoa_num hn.1, by omega⟩
  · rintro ⟨h1, h2⟩
    obtain ⟨n, rfl⟩ : ∃ n : Nat, v = n := ⟨v.toNat, by omega⟩
    rw [itoa_nat] at h1
    rw [← h1]
    simp only [numB, Bool.and_eq_true, decide_eq_true_eq]
    rw [(dec_facts n).2.1]
    exact ⟨dec_ok n, by omega⟩
theorem numB_val {a : List UInt8} {v : Int} (h : Lib.atoiAll a = .ok v) (hn : numB a = true) : v = num a := by
  have := atoi_num hn
  rw [h] at this
  injection this
theorem numB_syn {a : List UInt8} (h : Lib.atoiAll a = .«syntax») : numB a = false := by
  cases hn : numB a
  · rfl
  · rw [atoi_num hn] at h; cases h
theorem numB_rng {a : List UInt8} (h : Lib.atoiAll a = .range) : numB a = false := by
  cases hn : numB a
  · rfl
  · rw [atoi_num hn] at h; cases h
/-- All numbers from one to another one, too. -/
def orR (s : Nat) (a : Nat) : Nat → Nat
  | 0 => s
  | k + 1 => orR s a k ||| 2 ^ (a + k)
theorem orR_lt {s a : Nat} (hs : s < 18446744073709551616) : ∀ {k : Nat}, a + k ≤ 64 → orR s a k < 18446744073709551616
  | 0, _ => hs
  | k + 1, h => or_lt (orR_lt hs (by omega)) (pow_lt (by omega))
/-- A word of a set's text: the two numbers' texts. -/
def wordA (w : List UInt8) : List UInt8 := (Lib.cut w [45]).1
def wordB (w : List UInt8) : List UInt8 := if (Lib.cut w [45]).2.2 then (Lib.cut w [45]).2.1 else (Lib.cut w [45]).1
def goW (out : Nat) : List (List UInt8) → Nat × Int
  | [] => (out, 0)
  | w :: l => if !numB (wordA w) || !numB (wordB w) || decide (num (wordB w) < num (wordA w)) then (0, 4) else if 64 ≤ num (wordB w) then (0, 1) else goW (orR out (num (wordA w)) (num (wordB w) + 1 - num (wordA w))) l
def wordsP (s : List UInt8) : List (List UInt8) := Lib.split s [44]
def parseP (s : List UInt8) : Nat × Int := if 300 < s.length then (0, 2) else if s = [] then (0, 0) else goW 0 (wordsP s)
section
variable {L : List (List UInt8)} {k out : Nat}
theorem goW_bad (hk : k < L.length) {r : Nat × Int} (h : r = goW out (L.drop k)) (hb : numB (wordA L[k]) = false ∨ numB (wordB L[k]) = false ∨ num (wordB L[k]) < num (wordA L[k])) : r = (0, 4) := by
  rw [h, List.drop_eq_getElem_cons hk, goW, if_pos]
  rcases hb with hb | hb | hb <;> simp [hb]
theorem goW_far (hk : k < L.length) {r : Nat × Int} (h : r = goW out (L.drop k)) (h1 : numB (wordA L[k]) = true) (h2 : numB (wordB L[k]) = true) (h3 : num (wordA L[k]) ≤ num (wordB L[k])) (h4 : 64 ≤ num (wordB L[k])) : r = (0, 1) := by
  rw [h, List.drop_eq_getElem_cons hk, goW, if_neg (by simp [h1, h2]; omega), if_pos h4]
theorem goW_next (hk : k < L.length) {r : Nat × Int} (h : r = goW out (L.drop k)) (h1 : numB (wordA L[k]) = true) (h2 : numB (wordB L[k]) = true) (h3 : num (wordA L[k]) ≤ num (wordB L[k])) (h4 : num (wordB L[k]) < 64) : r = goW (orR out (num (wordA L[k])) (num (wordB L[k]) + 1 - num (wordA L[k]))) (L.drop (k + 1)) := by
  rw [h, List.drop_eq_getElem_cons hk, goW, if_neg (by simp [h1, h2]; omega), if_neg (by omega)]
end
end Bi
end Go.Proofs.YticmfflnenoplaaDoor
