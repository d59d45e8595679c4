/- Texts laid together: PsF, PsG, PsH, PsI, PsJ, PkD, PkE, PkF, PkG, TopoE, TopoF, TopoG. No statement is proved here. -/
import Derived.Test.YticmfflnenoplaaDoorQ04
namespace Go.Proofs.YticmfflnenoplaaDoor
open Go.RowKit
namespace Ps
set_option maxRecDepth 100000 in
set_option maxHeartbeats 4000000 in
theorem sym_last (κ : Int → Int) (g : Nat) (caps : Array Value) (L P U Q : List Int) (y : Int) (rest : List Value) (b cap a m e n : Nat) (ha : a = P.length) (hm : m = P.length + U.length) (he : e = P.length + U.length + 1) (hn : n = P.length + U.length + 1 + Q.length) (h2 : 2 ≤ U.length) (hl : n ≤ 100) (hU : Sd κ U) (hx : ∀ x ∈ U, x < y) (hL : ∀ z ∈ P ++ U ++ y :: Q, z ∈ L)
    (w0 w : World) (hc : CmpIs κ g caps b L w0) (hk : Kept (fun k => k = b) w0 w) (h : IRow w b (P ++ U ++ y :: Q) rest) :
    Calls Tryd.prog 79 #[.slice (some ⟨b, 0, none⟩) n cap, .int .i64 a, .int .i64 m, .int .i64 e, .func (.func g) #[] caps] w (MergeDone κ b P U [y] Q rest w) := by
  have H := Lib.hid h
  have HC := Lib.hid hc
  have hent := hc.ent
  have hlen : (P ++ U ++ y :: Q).length = n := by simp; omega
  have HM : Hid (∀ k k', a ≤ k → k ≤ k' → k' < m → κ ((P ++ U ++ y :: Q).getD k' 0) ≤ κ y → κ ((P ++ U ++ y :: Q).getD k 0) ≤ κ y) := Lib.hid (by
    intro k k' h1 h2 h3 h4
    have := Sd.getD (P := P) (Q := y :: Q) hU (k := k) (k' := k') (by omega) h2 (by omega)
    omega)
  have HF : Hid (∀ i, Half (fun x => κ x ≤ κ y) (P ++ U ++ y :: Q) a m i i → (U.take (i - P.length) ++ y :: U.drop (i - P.length)).Perm (U ++ [y]) ∧ Sd κ (U.take (i - P.length) ++ y :: U.drop (i - P.length))) := Lib.hid (fun i h => one_right (Q := Q) hU hx (by rw [ha, hm] at h; exact h))
  have HS : Hid (Half (fun x => κ x ≤ κ y) (P ++ U ++ y :: Q) a m a m) := Lib.hid (Half.start (by omega))
  have hxa : (P ++ U ++ y :: Q).getD m 0 = y := by
    subst hm
    rw [getD_at (by omega)]
    exact at0 (by simp) _
  have HXA := Lib.hid hxa
  have HLX : y ∈ L := hL y (by simp)
  have HLK : Hid (∀ k, k < n → (P ++ U ++ y :: Q).getD k 0 ∈ L) := Lib.hid (fun k hk => by rw [getD_at (by omega)]; exact hL _ (List.getElem_mem _))
  have HLN : Hid ((P ++ U ++ y :: Q).length = n) := Lib.hid hlen
  have HUP : Hid (P ++ U ++ y :: Q = Up P U Q y m) := Lib.hid (by
    rw [hm]
    unfold Up
    rw [show P.length + U.length - P.length = U.length by omega, List.take_length, List.drop_length]
    simp)
  have hm1 : (e : Int) - m = 1 := by omega
  obtain ⟨u1, hu1⟩ : ∃ u1 : Nat, u1 = m - a := ⟨_, rfl⟩
  have hm2 : (m : Int) - a = u1 := by omega
  have hm3 : ((u1 : Int) == 1) = false := by simp; omega
  have i1 : a + 2 ≤ m := by omega
  have i2 : m + 1 ≤ e := by omega
  have i3 : e ≤ n := by omega
  have HA : Hid (a = P.length ∧ m = P.length + U.length ∧ e = P.length + U.length + 1 ∧ n = P.length + U.length + 1 + Q.length) := Lib.hid ⟨ha, hm, he, hn⟩
  have hKX := HC.out.key y
  clear h hc hU hx hL hxa hlen ha hm he hn hu1 h2
  generalize hD : P ++ U ++ y :: Q = D at *
  clear hD
  go_enter Tryd.func79, Tryd.ntmps79
  go_wp2_with fail
  clear hm1 hm2 hm3
  go_loopw [14, 15] (fun i j wr => ∃ (p q : Nat), i = .int .i64 p ∧ j = .int .i64 q ∧ Hid (Half (fun x => κ x ≤ κ y) D a m p q) ∧ p ≤ q ∧ a ≤ p ∧ q ≤ m ∧ Hid (IRow wr b D rest) ∧ Kept (fun k => k = b) w wr) (fun i j _ => (intOf j).toNat - (intOf i).toNat)
  case atStart => exact ⟨a, m, rfl, rfl, HS, by omega, by omega, by omega, H, Kept.refl _ _⟩
  case round =>
    clear HS H
    obtain ⟨p, q, rfl, rfl, HH, hpq, hmp, hqe, HR, hkr⟩ := hrel
    by_cases hlt : p < q
    · obtain ⟨c, hc⟩ : ∃ c, c = (p + q) / 2 := ⟨_, rfl⟩
      have hcp : p ≤ c := by omega
      have hcq : c < q := by omega
      have hci : (((p : Int) + q) / 2) = c := by omega
      have c1 := HR.out.cellD (k := c) (by rw [HLN.out]; omega)
      have hxc := HR.out.cellD (k := m) (by rw [HLN.out]; omega)
      rw [HXA.out] at hxc
      have hkk := hk.trans hkr
      have HCM := Lib.hid (fun W hW => HC.out.run W hW _ HLX _ (HLK.out c (by omega)))
      have hKC := HC.out.key (D.getD c 0)
      have hcn : (c : Int) < n := by omega
      have han : (m : Int) < n := by omega
      clear hc HF HUP HA
      go_wp2_with fail
      by_cases hcmp : κ y < κ (D.getD c 0)
      · have hd : decide (κ y - κ (D.getD c 0) < 0) = true := decide_eq_true (by omega)
        have HN := Lib.hid (HH.out.down HM.out hcp hcq (by omega))
        generalize κ y - κ (D.getD c 0) = kd at *
        generalize D.getD c 0 = z at *
        go_quiet ((exact Calls.quiet_of_same ((HCM.out _ (by first | exact hkk | exact hkk.drew | exact hkk.drewN _)).mono fun _ _ hh => ⟨hh.1, hh.2.symm⟩)))
        go_wp2_with fail
        go_roundw
        case rel => exact ⟨p, c, rfl, rfl, HN, by omega, by omega, by omega, HR, hkr.drewN _⟩
        case measure => simp [intOf] <;> omega
      · have hd : decide (κ y - κ (D.getD c 0) < 0) = false := decide_eq_false (by omega)
        have HN := Lib.hid (HH.out.up HM.out hcp hcq (by omega))
        generalize κ y - κ (D.getD c 0) = kd at *
        generalize D.getD c 0 = z at *
        go_quiet ((exact Calls.quiet_of_same ((HCM.out _ (by first | exact hkk | exact hkk.drew | exact hkk.drewN _)).mono fun _ _ hh => ⟨hh.1, hh.2.symm⟩)))
        go_wp2_with fail
        go_roundw
        case rel => exact ⟨c + 1, q, by go_num, rfl, HN, by omega, by omega, by omega, HR, hkr.drewN _⟩
        case measure => simp [intOf] <;> omega
    · obtain rfl : p = q := by omega
      have HD := Lib.hid (HF.out p HH.out)
      obtain ⟨wo, rfl⟩ : ∃ wo : World, wo = wr := ⟨_, rfl⟩
      have H0 : Hid (IRow wo b (Up P U Q y m) rest) := Lib.hid (by rw [← HUP.out]; exact HR.out)
      have hk1 := hkr
      clear hkr HR
      clear HH HF HM HLK HC HUP HXA HLN
      go_wp2_with fail
      go_loopw [17] (fun i wr => ∃ k : Nat, i = .int .i64 k ∧ p ≤ k ∧ k ≤ m ∧ Hid (IRow wr b (Up P U Q y k) rest) ∧ Kept (fun k => k = b) w wr) (fun i _ => (intOf i).toNat)
      case atStart => exact ⟨m, rfl, by omega, by omega, H0, hk1⟩
      case round =>
        clear H0 hk1
        obtain ⟨k, rfl, hak, hkz, HR, hkp⟩ := hrel
        by_cases hlk : p < k
        · obtain ⟨q, rfl⟩ : ∃ q, k = q + 1 := ⟨k - 1, by omega⟩
          obtain ⟨a1, a2, a3, a4⟩ := HA.out
          have hul := Up.len P U Q y (q + 1)
          have c1 := HR.out.cell (k := q + 1) (by omega)
          have c2 := HR.out.cell (k := q) (by omega)
          have f1 := HR.out.frozen (q + 1)
          have f2 := HR.out.frozen q
          have HR2 : Hid (IRow ((wr.setCell ⟨b, q + 1, none⟩ (.int .i64 ((Up P U Q y (q + 1))[q]'(by omega)))).setCell ⟨b, q, none⟩ (.int .i64 ((Up P U Q y (q + 1))[q + 1]'(by omega)))) b (Up P U Q y q) rest) := Lib.hid (by
            refine ((HR.out.set (by omega) _).set (by rw [List.length_set]; omega) _).cast ?_
            refine Eq.trans ?_ (Up.back (by omega) (by omega))
            rw [xch, getD_at (by omega), getD_at (by omega)])
          generalize (Up P U Q y (q + 1))[q + 1]'(by omega) = u at *
          generalize (Up P U Q y (q + 1))[q]'(by omega) = v at *
          have hpq2 : (p : Int) < (q : Int) + 1 := by omega
          have hqn : (q : Int) + 1 < n := by omega
          clear hul HR a1 a2 a3 a4
          go_wp2_with fail
          go_region
          go_wp2_with fail
          go_roundw
          case rel => exact ⟨q, by go_num, by omega, by omega, HR2, ((hkp.drew).set1 _).set1 _⟩
          case measure => simp [intOf] <;> omega
        · obtain rfl : k = p := by omega
          go_wp2_with fail
          go_end0
          obtain ⟨a1, a2, a3, a4⟩ := HA.out
          obtain ⟨d1, d2⟩ := HD.out
          exact ⟨_, rfl, d1, d2, HR.out.cast Up.mid, hkp⟩
end Ps
end Go.Proofs.YticmfflnenoplaaDoor
namespace Go.Proofs.YticmfflnenoplaaDoor
open Go.RowKit
namespace Ps
section
variable {κ : Int → Int}
/-- What a search by halves knows, by places. -/
structure HalfI (p : Nat → Prop) (lo hi i j : Nat) : Prop where
  li : lo ≤ i
  ij : i ≤ j
  jh : j ≤ hi
  yes : ∀ k, lo ≤ k → k < i → p k
  no : ∀ k, j ≤ k → k < hi → ¬ p k
theorem HalfI.start {p : Nat → Prop} {lo hi : Nat} (h : lo ≤ hi) : HalfI p lo hi lo hi := ⟨Nat.le_refl _, h, Nat.le_refl _, fun _ _ _ => by omega, fun _ _ _ => by omega⟩
theorem HalfI.up {p : Nat → Prop} {lo hi i j : Nat} (h : HalfI p lo hi i j) (hm : ∀ k k', lo ≤ k → k ≤ k' → k' < hi → p k' → p k) {c : Nat} (h1 : i ≤ c) (h2 : c < j) (hp : p c) : HalfI p lo hi (c + 1) j :=
  ⟨by have := h.li; omega, by omega, h.jh, fun k k1 k2 => hm k c k1 (by omega) (by have := h.jh; omega) hp, h.no⟩
theorem HalfI.down {p : Nat → Prop} {lo hi i j : Nat} (h : HalfI p lo hi i j) (hm : ∀ k k', lo ≤ k → k ≤ k' → k' < hi → p k' → p k) {c : Nat} (h1 : i ≤ c) (h2 : c < j) (hp : ¬ p c) : HalfI p lo hi i c :=
  ⟨h.li, h1, by have := h.jh; omega, h.yes, fun k k1 k2 hk => hp (hm c k (by have := h.li; omega) k1 k2 hk)⟩
theorem atU {P U V Q : List Int} {j : Nat} (hj : j < U.length) : (P ++ U ++ V ++ Q).getD (P.length + j) 0 = U[j] := by
  rw [List.append_assoc (P ++ U), getD_mid (by omega) (by omega)]
  congr 1
  omega
theorem atV {P U V Q : List Int} {j : Nat} (hj : j < V.length) : (P ++ U ++ V ++ Q).getD (P.length + U.length + j) 0 = V[j] := by
  rw [getD_mid (by simp) (by simp; omega)]
  congr 1
  simp
theorem Sd.getU {P U V Q : List Int} (h : Sd κ U) {k k' : Nat} (h1 : P.length ≤ k) (h2 : k ≤ k') (h3 : k' < P.length + U.length) : κ ((P ++ U ++ V ++ Q).getD k 0) ≤ κ ((P ++ U ++ V ++ Q).getD k' 0) := by
  rw [List.append_assoc (P ++ U)]
  exact Sd.getD h h1 h2 h3
theorem Sd.getV {P U V Q : List Int} (h : Sd κ V) {k k' : Nat} (h1 : P.length + U.length ≤ k) (h2 : k ≤ k') (h3 : k' < P.length + U.length + V.length) : κ ((P ++ U ++ V ++ Q).getD k 0) ≤ κ ((P ++ U ++ V ++ Q).getD k' 0) :=
  Sd.getD (P := P ++ U) h (by simpa using h1) h2 (by simpa using h3)
/-- The test of the halves. -/
def Sym (κ : Int → Int) (D : List Int) (p c : Nat) : Prop := κ (D.getD c 0) ≤ κ (D.getD (p - c) 0)
def loS (a m e mid : Nat) : Nat := if mid < m then mid + m - e else a
def hiS (m mid : Nat) : Nat := if mid < m then mid else m
theorem sym_mono {P U V Q : List Int} {a m e mid : Nat} (ha : a = P.length) (hm : m = P.length + U.length) (he : e = P.length + U.length + V.length) (hmid : mid = (a + e) / 2) (hU : Sd κ U) (hV : Sd κ V) :
    ∀ k k', loS a m e mid ≤ k → k ≤ k' → k' < hiS m mid → Sym κ (P ++ U ++ V ++ Q) (mid + m - 1) k' → Sym κ (P ++ U ++ V ++ Q) (mid + m - 1) k := by
  intro k k' h1 h2 h3 h4
  unfold Sym at *
  have b1 : a ≤ k ∧ k' < m ∧ m ≤ mid + m - 1 - k' ∧ mid + m - 1 - k < e := by
    unfold loS at h1
    unfold hiS at h3
    split at h1 <;> split at h3 <;> omega
  have g1 := Sd.getU (P := P) (V := V) (Q := Q) hU (k := k) (k' := k') (by omega) h2 (by omega)
  have g2 := Sd.getV (P := P) (U := U) (Q := Q) hV (k := mid + m - 1 - k') (k' := mid + m - 1 - k) (by omega) (by omega) (by omega)
  omega
theorem sym_cut {P U V Q : List Int} {a m e mid s : Nat} (ha : a = P.length) (hm : m = P.length + U.length) (he : e = P.length + U.length + V.length) (hmid : mid = (a + e) / 2) (hU : Sd κ U) (hV : Sd κ V)
    (h : HalfI (Sym κ (P ++ U ++ V ++ Q) (mid + m - 1)) (loS a m e mid) (hiS m mid) s s) :
    Cut4 κ U V (U.take (s - a)) (U.drop (s - a)) (V.take (mid - s)) (V.drop (mid - s)) ∧ a ≤ s ∧ s ≤ m ∧ s ≤ mid ∧ mid + m ≤ e + s := by
  obtain ⟨h1, _, h3, hy, hn⟩ := h
  have bd : a ≤ s ∧ s ≤ m ∧ s ≤ mid ∧ mid + m ≤ e + s := by
    unfold loS at h1
    unfold hiS at h3
    split at h1 <;> split at h3 <;> omega
  refine ⟨⟨(List.take_append_drop _ _).symm, (List.take_append_drop _ _).symm, ?_, ?_⟩, bd⟩
  · intro x hx y hy'
    obtain ⟨j, hj, rfl⟩ := List.mem_iff_getElem.1 hx
    obtain ⟨d, hd, rfl⟩ := List.mem_iff_getElem.1 hy'
    rw [List.length_take] at hj
    rw [List.length_drop] at hd
    rw [List.getElem_take, List.getElem_drop]
    have hlo : loS a m e mid ≤ s - 1 ∧ s - 1 < s := by
      unfold loS at *
      split at h1
      · rename_i hc
        rw [if_pos hc]
        omega
      · rename_i hc
        rw [if_neg hc]
        omega
    have := hy (s - 1) hlo.1 hlo.2
    unfold Sym at this
    have g1 := Sd.getU (P := P) (V := V) (Q := Q) hU (k := P.length + j) (k' := s - 1) (by omega) (by omega) (by omega)
    have g2 := Sd.getV (P := P) (U := U) (Q := Q) hV (k := mid + m - 1 - (s - 1)) (k' := P.length + U.length + (mid - s + d)) (by omega) (by omega) (by omega)
    rw [atU (by omega)] at g1
    rw [atV (by omega)] at g2
    omega
  · intro x hx y hy'
    obtain ⟨d, hd, rfl⟩ := List.mem_iff_getElem.1 hx
    obtain ⟨j, hj, rfl⟩ := List.mem_iff_getElem.1 hy'
    rw [List.length_take] at hd
    rw [List.length_drop] at hj
    rw [List.getElem_take, List.getElem_drop]
    have hhi : s < hiS m mid := by
      unfold hiS at *
      split at h3
      · rename_i hc
        rw [if_pos hc]
        omega
      · rename_i hc
        rw [if_neg hc]
        omega
    have := hn s (Nat.le_refl _) hhi
    unfold Sym at this
    have g1 := Sd.getU (P := P) (V := V) (Q := Q) hU (k := s) (k' := P.length + (s - a + j)) (by omega) (by omega) (by omega)
    have g2 := Sd.getV (P := P) (U := U) (Q := Q) hV (k := P.length + U.length + d) (k' := mid + m - 1 - s) (by omega) (by omega) (by omega)
    rw [atU (by omega)] at g1
    rw [atV (by omega)] at g2
    omega
end
/-- That merges of so many go well. -/
def SymOK (κ : Int → Int) (g : Nat) (caps : Array Value) (L : List Int) (rest : List Value) (b cap n : Nat) (w0 : World) (N : Nat) : Prop :=
  ∀ (P U V Q : List Int) (a m e : Nat) (w : World), a = P.length → m = P.length + U.length → e = P.length + U.length + V.length → n = P.length + U.length + V.length + Q.length → 0 < U.length → 0 < V.length → U.length + V.length ≤ N → Sd κ U → Sd κ V → (∀ x ∈ U, ∀ y ∈ V, x < y) → (∀ z ∈ P ++ U ++ V ++ Q, z ∈ L) → Kept (fun k => k = b) w0 w → IRow w b (P ++ U ++ V ++ Q) rest →
    Calls Tryd.prog 79 #[.slice (some ⟨b, 0, none⟩) n cap, .int .i64 a, .int .i64 m, .int .i64 e, .func (.func g) #[] caps] w (MergeDone κ b P U V Q rest w)
end Ps
end Go.Proofs.YticmfflnenoplaaDoor
namespace Go.Proofs.YticmfflnenoplaaDoor
open Go.RowKit
namespace Ps
set_option maxRecDepth 100000 in
set_option maxHeartbeats 8000000 in
theorem sym_main (κ : Int → Int) (g : Nat) (caps : Array Value) (L P U V Q : List Int) (rest : List Value) (b cap a m e n N : Nat) (ha : a = P.length) (hm : m = P.length + U.length) (he : e = P.length + U.length + V.length) (hn : n = P.length + U.length + V.length + Q.length) (h2 : 2 ≤ U.length) (h3 : 2 ≤ V.length) (hN : U.length + V.length ≤ N + 1) (hl : n ≤ 100) (hU : Sd κ U) (hV : Sd κ V) (hx : ∀ x ∈ U, ∀ y ∈ V, x < y) (hL : ∀ z ∈ P ++ U ++ V ++ Q, z ∈ L)
    (w0 w : World) (hc : CmpIs κ g caps b L w0) (hk : Kept (fun k => k = b) w0 w) (h : IRow w b (P ++ U ++ V ++ Q) rest) (IH : SymOK κ g caps L rest b cap n w0 N) :
    Calls Tryd.prog 79 #[.slice (some ⟨b, 0, none⟩) n cap, .int .i64 a, .int .i64 m, .int .i64 e, .func (.func g) #[] caps] w (MergeDone κ b P U V Q rest w) := by
  have H := Lib.hid h
  have HC := Lib.hid hc
  have HIH := Lib.hid IH
  have hent := hc.ent
  have hlen : (P ++ U ++ V ++ Q).length = n := by simp; omega
  obtain ⟨mid, hmid⟩ : ∃ mid, mid = (a + e) / 2 := ⟨_, rfl⟩
  have HM := Lib.hid (sym_mono (Q := Q) ha hm he hmid hU hV)
  have HF := Lib.hid (fun s h => sym_cut (s := s) (Q := Q) ha hm he hmid hU hV h)
  have HJ := Lib.hid (fun (U1 U2 V1 V2 W1 W2 : List Int) (h : Cut4 κ U V U1 U2 V1 V2) p1 s1 p2 s2 => Cut4.join (W1 := W1) (W2 := W2) h hU hV hx p1 s1 p2 s2)
  have HSU := Lib.hid hU
  have HSV := Lib.hid hV
  have HX := Lib.hid hx
  have HLL := Lib.hid hL
  have HLK : Hid (∀ k, k < n → (P ++ U ++ V ++ Q).getD k 0 ∈ L) := Lib.hid (fun k hk => by rw [getD_at (by omega)]; exact hL _ (List.getElem_mem _))
  have HLN : Hid ((P ++ U ++ V ++ Q).length = n) := Lib.hid hlen
  have hmi : (((a : Int) + e) / 2) = mid := by omega
  have i1 : a + 2 ≤ m := by omega
  have i2 : m + 2 ≤ e := by omega
  have i3 : e ≤ n := by omega
  have i4 : a < mid := by omega
  have i5 : mid < e := by omega
  obtain ⟨u1, hu1⟩ : ∃ u1 : Nat, u1 = m - a := ⟨_, rfl⟩
  obtain ⟨u2, hu2⟩ : ∃ u2 : Nat, u2 = e - m := ⟨_, rfl⟩
  have hm2 : (m : Int) - a = u1 := by omega
  have hm3 : ((u1 : Int) == 1) = false := by simp; omega
  have hm4 : (e : Int) - m = u2 := by omega
  have hm5 : ((u2 : Int) == 1) = false := by simp; omega
  obtain ⟨pp, hpp⟩ : ∃ pp : Nat, pp = mid + m - 1 := ⟨_, rfl⟩
  have hpi : (mid : Int) + m - 1 = pp := by omega
  have i6 : pp + 1 = mid + m := by omega
  rw [← hpp] at HM HF
  have HA : Hid (a = P.length ∧ m = P.length + U.length ∧ e = P.length + U.length + V.length ∧ n = P.length + U.length + V.length + Q.length ∧ U.length + V.length ≤ N + 1) := Lib.hid ⟨ha, hm, he, hn, hN⟩
  have HMID := Lib.hid hmid
  clear h hc hU hV hx hL hlen ha hm he hn hu1 hu2 h2 h3 hmid hpp IH hN
  generalize hD : P ++ U ++ V ++ Q = D at *
  have HD := Lib.hid hD
  clear hD
  have HB : Hid (∀ c, loS a m e mid ≤ c → c < hiS m mid → a ≤ c ∧ c < m ∧ m + c ≤ pp ∧ pp < e + c) := Lib.hid (by
    have hmid := HMID.out
    intro c h1 h2
    unfold loS at h1
    unfold hiS at h2
    split at h1 <;> split at h2 <;> omega)
  go_enter Tryd.func79, Tryd.ntmps79
  go_upto_if 140 with fail
  go_cut [20, 21] (fun x y wx => ∃ p q : Nat, x = .int .i64 p ∧ y = .int .i64 q ∧ Hid (HalfI (Sym κ D pp) (loS a m e mid) (hiS m mid) p q) ∧ p ≤ q ∧ q ≤ m ∧ wx = w)
  case first => as_aux_lemma =>
    by_cases hmm : mid < m
    · have HS : Hid (HalfI (Sym κ D pp) (loS a m e mid) (hiS m mid) (mid + m - e) mid) := Lib.hid (by
        have e1 : loS a m e mid = mid + m - e := by unfold loS; rw [if_pos hmm]
        have e2 : hiS m mid = mid := by unfold hiS; rw [if_pos hmm]
        rw [e1, e2]
        have := HMID.out
        exact HalfI.start (by omega))
      obtain ⟨lo, hlo⟩ : ∃ lo, lo = mid + m - e := ⟨_, rfl⟩
      rw [← hlo] at HS
      have hmid := HMID.out
      have hlo1 : (mid : Int) + m - e = lo := by omega
      have i7 : lo ≤ mid := by omega
      clear hlo hmid
      go_wp2_with fail
      go_meet
      exact ⟨lo, mid, rfl, rfl, HS, i7, by omega, rfl⟩
    · have HS : Hid (HalfI (Sym κ D pp) (loS a m e mid) (hiS m mid) a m) := Lib.hid (by
        have e1 : loS a m e mid = a := by unfold loS; rw [if_neg hmm]
        have e2 : hiS m mid = m := by unfold hiS; rw [if_neg hmm]
        rw [e1, e2]
        exact HalfI.start (by omega))
      go_wp2_with fail
      go_meet
      exact ⟨a, m, rfl, rfl, HS, by omega, by omega, rfl⟩
  case rest =>
    obtain ⟨p0, q0, rfl, rfl, HS, i7, i8, hwx⟩ := hcut
    have hwx2 := hwx.symm
    subst hwx2
    go_wp2_with fail
    clear hm2 hm3 hm4 hm5
    go_loopw [20, 21] (fun i j wr => ∃ (p q : Nat), i = .int .i64 p ∧ j = .int .i64 q ∧ Hid (HalfI (Sym κ D pp) (loS a m e mid) (hiS m mid) p q) ∧ p ≤ q ∧ q ≤ m ∧ Hid (IRow wr b D rest) ∧ Kept (fun k => k = b) w wr) (fun i j _ => (intOf j).toNat - (intOf i).toNat)
    case atStart => exact ⟨_, _, rfl, rfl, HS, i7, i8, H, Kept.refl _ _⟩
    case round =>
      clear HS H i7 i8
      obtain ⟨p, q, rfl, rfl, HH, hpq, hqm, HR, hkr⟩ := hrel
      by_cases hlt : p < q
      · as_aux_lemma =>
        obtain ⟨c, hc⟩ : ∃ c, c = (p + q) / 2 := ⟨_, rfl⟩
        have hcp : p ≤ c := by omega
        have hcq : c < q := by omega
        have hci : (((p : Int) + q) / 2) = c := by omega
        obtain ⟨b1, b2, b3, b4⟩ := HB.out c (by have := HH.out.li; omega) (by have := HH.out.jh; omega)
        obtain ⟨d, hd⟩ : ∃ d : Nat, d = pp - c := ⟨_, rfl⟩
        have hdi : IntKind.i64.wrap ((pp : Int) - c) = d := by rw [IntWalk.i64_in _ (by omega)]; omega
        have hdi2 : (pp : Int) - c = d := by omega
        have c1 := HR.out.cellD (k := c) (by rw [HLN.out]; omega)
        have c2 := HR.out.cellD (k := d) (by rw [HLN.out]; omega)
        have hkk := hk.trans hkr
        have HCM := Lib.hid (fun W hW => HC.out.run W hW _ (HLK.out d (by omega)) _ (HLK.out c (by omega)))
        have hKC := HC.out.key (D.getD c 0)
        have hKD := HC.out.key (D.getD d 0)
        have hcn : (c : Int) < n := by omega
        have hdn : (d : Int) < n := by omega
        have HSY : Hid (Sym κ D pp c ↔ κ (D.getD c 0) ≤ κ (D.getD d 0)) := Lib.hid (by rw [hd]; exact Iff.rfl)
        clear hc hd HF HA HJ HSU HSV HX HLL HIH HB HMID HD HLK
        go_wp2_with fail
        by_cases hcmp : κ (D.getD d 0) < κ (D.getD c 0)
        · have hb : decide (κ (D.getD d 0) - κ (D.getD c 0) < 0) = true := decide_eq_true (by omega)
          have HN := Lib.hid (HH.out.down HM.out hcp hcq (fun h => by have := HSY.out.1 h; omega))
          generalize κ (D.getD d 0) - κ (D.getD c 0) = kd at *
          clear HSY
          generalize D.getD c 0 = z at *
          generalize D.getD d 0 = z2 at *
          go_quiet ((exact Calls.quiet_of_same ((HCM.out _ (by first | exact hkk | exact hkk.drew | exact hkk.drewN _)).mono fun _ _ hh => ⟨hh.1, hh.2.symm⟩)))
          go_wp2_with fail
          go_roundw
          case rel => exact ⟨p, c, rfl, rfl, HN, by omega, by omega, HR, hkr.drewN _⟩
          case measure => simp [intOf] <;> omega
        · have hb : decide (κ (D.getD d 0) - κ (D.getD c 0) < 0) = false := decide_eq_false (by omega)
          have HN := Lib.hid (HH.out.up HM.out hcp hcq (HSY.out.2 (by omega)))
          generalize κ (D.getD d 0) - κ (D.getD c 0) = kd at *
          clear HSY
          generalize D.getD c 0 = z at *
          generalize D.getD d 0 = z2 at *
          go_quiet ((exact Calls.quiet_of_same ((HCM.out _ (by first | exact hkk | exact hkk.drew | exact hkk.drewN _)).mono fun _ _ hh => ⟨hh.1, hh.2.symm⟩)))
          go_wp2_with fail
          go_roundw
          case rel => exact ⟨c + 1, q, by go_num, rfl, HN, by omega, by omega, HR, hkr.drewN _⟩
          case measure => simp [intOf] <;> omega
      · obtain rfl : p = q := by omega
        obtain ⟨wo, rfl⟩ : ∃ wo : World, wo = wr := ⟨_, rfl⟩
        obtain ⟨hcut, s1, s2, s3, s4⟩ := HF.out p HH.out
        have HCUT := Lib.hid hcut
        obtain ⟨en, hen⟩ : ∃ en : Nat, en = mid + m - p := ⟨_, rfl⟩
        have heni : (mid : Int) + m - p = en := by omega
        have e1 : m ≤ en := by omega
        have e2 : en ≤ e := by omega
        have e3 : en + p = mid + m := by omega
        clear hcut HF HM HB HH hen HLK HLN hpi hmi
        obtain ⟨U1, hU1⟩ : ∃ U1, U1 = U.take (p - a) := ⟨_, rfl⟩
        obtain ⟨U2, hU2⟩ : ∃ U2, U2 = U.drop (p - a) := ⟨_, rfl⟩
        obtain ⟨V1, hV1⟩ : ∃ V1, V1 = V.take (mid - p) := ⟨_, rfl⟩
        obtain ⟨V2, hV2⟩ : ∃ V2, V2 = V.drop (mid - p) := ⟨_, rfl⟩
        rw [← hU1, ← hU2, ← hV1, ← hV2] at HCUT
        obtain ⟨a1, a2, a3, a4, a5⟩ := HA.out
        have l1 : P.length + U1.length = p := by rw [hU1, List.length_take]; omega
        have l2 : U2.length + p = m := by rw [hU2, List.length_drop]; omega
        have l3 : V1.length + p = mid := by rw [hV1, List.length_take]; omega
        have l4 : V2.length + en = e := by rw [hV2, List.length_drop]; omega
        have l5 : P.length = a := by omega
        have l6 : e + Q.length = n := by omega
        have l7 : U1.length + V1.length ≤ N := by omega
        have l8 : U2.length + V2.length ≤ N := by omega
        clear hU1 hU2 hV1 hV2 a1 a2 a3 a4 a5 HA
        have HD2 : Hid (D = P ++ U1 ++ U2 ++ V1 ++ (V2 ++ Q)) := Lib.hid (by
          rw [← HD.out, HCUT.out.hu, HCUT.out.hv]
          simp)
        have HT : Hid (∀ _ : p < m, ∀ _ : m < en, Turn (P ++ U1 ++ V1 ++ (U2 ++ V2 ++ Q)) m (m - p) (en - m) D) := Lib.hid (fun _ _ => ⟨P ++ U1, U2, V1, V2 ++ Q, HD2.out, by simp; omega, by omega, by omega, by omega, by omega, by simp⟩)
        have HNT : Hid (p = m ∨ en = m → D = P ++ U1 ++ V1 ++ (U2 ++ V2 ++ Q)) := Lib.hid (by
          rintro (h | h)
          · have : U2 = [] := List.length_eq_zero_iff.1 (by omega)
            rw [HD2.out, this]; simp
          · have : V1 = [] := List.length_eq_zero_iff.1 (by omega)
            rw [HD2.out, this]; simp)
        have HDL : Hid (D.length = n) := Lib.hid (by rw [HD2.out]; simp; omega)
        go_upto_region 39 with fail
        go_cut [185] (fun c wx => ∃ bb : Bool, c = .bool bb ∧ Hid (bb = true ↔ p < m ∧ m < en) ∧ wx = wo)
        case first => as_aux_lemma =>
          by_cases h1 : p < m
          · by_cases h2 : m < en
            · go_wp2_with fail
              go_meet
              exact ⟨_, rfl, Lib.hid (by simp; omega), rfl⟩
            · go_wp2_with fail
              go_meet
              exact ⟨_, rfl, Lib.hid (by simp; omega), rfl⟩
          · go_wp2_with fail
            go_meet
            exact ⟨_, rfl, Lib.hid (by simp; omega), rfl⟩
        case rest =>
          obtain ⟨bb, rfl, HBB, hwx⟩ := hcut
          have hwx2 := hwx.symm
          subst hwx2
          clear hwx
          go_upto_if 185 with fail
          go_cut [191] (fun _ wx => ∃ wz : World, wx = wz ∧ Hid (IRow wz b (P ++ U1 ++ V1 ++ (U2 ++ V2 ++ Q)) rest) ∧ Kept (fun k => k = b) w wz)
          case first => as_aux_lemma =>
            cases bb
            · have HR2 := Lib.hid (HR.out.cast (HNT.out (by
                have : ¬ (p < m ∧ m < en) := fun h => by have := HBB.out.2 h; cases this
                omega)))
              clear HBB HT HNT
              go_wp2_with fail
              go_meet
              exact ⟨_, rfl, HR2, hkr⟩
            · obtain ⟨h1, h2⟩ := HBB.out.1 rfl
              have hR := rotate_any _ D rest b cap p m en (.func (.func g) #[] caps) (by omega) (by omega) (HT.out h1 h2) (by rw [HDL.out]; omega) wo HR.out
              rw [HDL.out] at hR
              have HRO := Lib.hid hR
              clear hR HBB HT HNT
              go_wp2_with fail
              refine HRO.out.mono ?_
              rintro e1' w1 ⟨rfl, r1, r2⟩
              have R1 := Lib.hid r1
              clear r1
              go_wp2_with fail
              go_meet
              exact ⟨_, rfl, R1, hkr.trans r2⟩
          case rest =>
            obtain ⟨wp, hwp, HR1, hk1⟩ := hcut
            have hwp2 := hwp.symm
            subst hwp2
            clear hwp
            clear HR hkr HT HNT HBB HDL
            have hsu := HSU.out
            rw [HCUT.out.hu] at hsu
            have hsv := HSV.out
            rw [HCUT.out.hv] at hsv
            obtain ⟨su1, su2, _⟩ := Sd.app.1 hsu
            obtain ⟨sv1, sv2, _⟩ := Sd.app.1 hsv
            have SU1 := Lib.hid su1
            have SU2 := Lib.hid su2
            have SV1 := Lib.hid sv1
            have SV2 := Lib.hid sv2
            have hmem : ∀ z, z ∈ P ∨ z ∈ U1 ∨ z ∈ U2 ∨ z ∈ V1 ∨ z ∈ V2 ∨ z ∈ Q → z ∈ L := by
              intro z hz
              apply HLL.out
              rw [HD2.out]
              simp only [List.mem_append]
              rcases hz with h | h | h | h | h | h <;> simp [h]
            have HMEM := Lib.hid hmem
            have HX1 : Hid (∀ x ∈ U1, ∀ y ∈ V1, x < y) := Lib.hid (fun x h1 y h2 => HX.out x (by rw [HCUT.out.hu]; exact List.mem_append_left _ h1) y (by rw [HCUT.out.hv]; exact List.mem_append_left _ h2))
            have HX2 : Hid (∀ x ∈ U2, ∀ y ∈ V2, x < y) := Lib.hid (fun x h1 y h2 => HX.out x (by rw [HCUT.out.hu]; exact List.mem_append_right _ h1) y (by rw [HCUT.out.hv]; exact List.mem_append_right _ h2))
            have HI1 := Lib.hid (fun W (k1 : 0 < U1.length) (k2 : 0 < V1.length) hW hR => HIH.out P U1 V1 (U2 ++ V2 ++ Q) a p mid W (by omega) (by omega) (by omega) (by simp; omega) k1 k2 (by omega) su1 sv1 HX1.out (fun z hz => hmem z (by
              simp only [List.mem_append] at hz
              rcases hz with ((h | h) | h) | (h | h) | h <;> simp [h])) hW hR)
            clear hsu hsv su1 su2 sv1 sv2 hmem HSU HSV HX HLL HD2
            go_upto_region 41 with fail
            go_cut [199] (fun c wy => ∃ bb : Bool, c = .bool bb ∧ Hid (bb = true ↔ a < p ∧ p < mid) ∧ wy = wp)
            case first => as_aux_lemma =>
              by_cases h1 : a < p
              · by_cases h2 : p < mid
                · go_wp2_with fail
                  go_meet
                  exact ⟨_, rfl, Lib.hid (by simp; omega), rfl⟩
                · go_wp2_with fail
                  go_meet
                  exact ⟨_, rfl, Lib.hid (by simp; omega), rfl⟩
              · go_wp2_with fail
                go_meet
                exact ⟨_, rfl, Lib.hid (by simp; omega), rfl⟩
            case rest =>
              obtain ⟨bb, rfl, HBB, hwx⟩ := hcut
              have hwx2 := hwx.symm
              subst hwx2
              clear hwx
              go_upto_if 199 with fail
              go_cut [205] (fun _ wx => ∃ (wz : World) (W1 : List Int), wx = wz ∧ W1.length = U1.length + V1.length ∧ Hid (W1.Perm (U1 ++ V1) ∧ Sd κ W1) ∧ Hid (IRow wz b (P ++ W1 ++ (U2 ++ V2 ++ Q)) rest) ∧ Kept (fun k => k = b) w wz)
              case first => as_aux_lemma =>
                cases bb
                · have HPE : Hid ((U1 ++ V1).Perm (U1 ++ V1) ∧ Sd κ (U1 ++ V1)) := Lib.hid ⟨List.Perm.refl _, by
                    have hne : U1 = [] ∨ V1 = [] := by
                      by_cases h1 : U1.length = 0
                      · exact .inl (List.length_eq_zero_iff.1 h1)
                      · by_cases h2 : V1.length = 0
                        · exact .inr (List.length_eq_zero_iff.1 h2)
                        · have := HBB.out.2 ⟨by omega, by omega⟩
                          cases this
                    rcases hne with h | h
                    · rw [h, List.nil_append]; exact SV1.out
                    · rw [h, List.append_nil]; exact SU1.out⟩
                  have HRA := Lib.hid (HR1.out.cast (show P ++ U1 ++ V1 ++ (U2 ++ V2 ++ Q) = P ++ (U1 ++ V1) ++ (U2 ++ V2 ++ Q) by simp))
                  clear HBB HI1 HIH
                  go_wp2_with fail
                  go_meet
                  exact ⟨_, _, rfl, by simp, HPE, HRA, hk1⟩
                · obtain ⟨h1, h2⟩ := HBB.out.1 rfl
                  have HCA := Lib.hid (HI1.out wp (by omega) (by omega) (hk.trans hk1) HR1.out)
                  clear HBB HI1 HIH
                  go_wp2_with fail
                  refine HCA.out.mono ?_
                  intro e1' w1 hM
                  have hM2 : MergeDone κ b P U1 V1 (U2 ++ V2 ++ Q) rest wp e1' w1 := hM
                  obtain ⟨W1, rfl, m1, m2, m3, m4⟩ := hM2
                  have HPE := Lib.hid (And.intro m1 m2)
                  have hwl : W1.length = U1.length + V1.length := by rw [m1.length_eq, List.length_append]
                  have M3 := Lib.hid m3
                  have hkm := hk1.trans m4
                  clear hM m1 m2 m3
                  go_wp2_with fail
                  go_meet
                  exact ⟨_, W1, rfl, hwl, HPE, M3, hkm⟩
              case rest =>
                obtain ⟨wq, W1, hwq, hwl, HPE, HR2, hk2⟩ := hcut
                have hwq2 := hwq.symm
                subst hwq2
                clear hwq HR1 hk1 HBB HI1
                have HI2 := Lib.hid (fun W (k1 : 0 < U2.length) (k2 : 0 < V2.length) hW hR => HIH.out (P ++ W1) U2 V2 Q mid en e W (by simp; omega) (by simp; omega) (by simp; omega) (by simp; omega) k1 k2 (by omega) SU2.out SV2.out HX2.out (fun z hz => HMEM.out z (by
                  simp only [List.mem_append] at hz
                  rcases hz with (((h | h) | h) | h) | h
                  · simp [h]
                  · have := HPE.out.1.subset h
                    simp only [List.mem_append] at this
                    rcases this with h | h <;> simp [h]
                  · simp [h]
                  · simp [h]
                  · simp [h])) hW hR)
                go_upto_region 43 with fail
                go_cut [213] (fun c wy => ∃ bb : Bool, c = .bool bb ∧ Hid (bb = true ↔ mid < en ∧ en < e) ∧ wy = wq)
                case first => as_aux_lemma =>
                  by_cases h1 : mid < en
                  · by_cases h2 : en < e
                    · go_wp2_with fail
                      go_meet
                      exact ⟨_, rfl, Lib.hid (by simp; omega), rfl⟩
                    · go_wp2_with fail
                      go_meet
                      exact ⟨_, rfl, Lib.hid (by simp; omega), rfl⟩
                  · go_wp2_with fail
                    go_meet
                    exact ⟨_, rfl, Lib.hid (by simp; omega), rfl⟩
                case rest =>
                  obtain ⟨bb, rfl, HBB, hwx⟩ := hcut
                  have hwx2 := hwx.symm
                  subst hwx2
                  clear hwx
                  cases bb
                  · have HPE2 : Hid ((U2 ++ V2).Perm (U2 ++ V2) ∧ Sd κ (U2 ++ V2)) := Lib.hid ⟨List.Perm.refl _, by
                      have hne : U2 = [] ∨ V2 = [] := by
                        by_cases h1 : U2.length = 0
                        · exact .inl (List.length_eq_zero_iff.1 h1)
                        · by_cases h2 : V2.length = 0
                          · exact .inr (List.length_eq_zero_iff.1 h2)
                          · have := HBB.out.2 ⟨by omega, by omega⟩
                            cases this
                      rcases hne with h | h
                      · rw [h, List.nil_append]; exact SV2.out
                      · rw [h, List.append_nil]; exact SU2.out⟩
                    clear HBB HI2 HIH
                    go_wp2_with fail
                    go_end0
                    obtain ⟨j1, j2⟩ := HJ.out U1 U2 V1 V2 W1 _ HCUT.out HPE.out.1 HPE.out.2 HPE2.out.1 HPE2.out.2
                    exact ⟨_, rfl, j1, j2, HR2.out.cast (by simp), hk2⟩
                  · obtain ⟨h1, h2⟩ := HBB.out.1 rfl
                    have HCA := Lib.hid (HI2.out wq (by omega) (by omega) (hk.trans hk2) (HR2.out.cast (by simp)))
                    clear HBB HI2 HIH
                    go_wp2_with fail
                    refine HCA.out.mono ?_
                    intro e1' w1 hM
                    have hM2 : MergeDone κ b (P ++ W1) U2 V2 Q rest wq e1' w1 := hM
                    obtain ⟨W2, rfl, m1, m2, m3, m4⟩ := hM2
                    have HPE2 := Lib.hid (And.intro m1 m2)
                    have M3 := Lib.hid m3
                    have hkm := hk2.trans m4
                    clear hM m1 m2 m3
                    go_wp2_with fail
                    go_end0
                    obtain ⟨j1, j2⟩ := HJ.out U1 U2 V1 V2 W1 W2 HCUT.out HPE.out.1 HPE.out.2 HPE2.out.1 HPE2.out.2
                    exact ⟨_, rfl, j1, j2, M3.out.cast (by simp), hkm⟩
theorem symMerge_any (κ : Int → Int) (g : Nat) (caps : Array Value) (L : List Int) (rest : List Value) (b cap n : Nat) (hl : n ≤ 100) (w0 : World) (hc : CmpIs κ g caps b L w0) : ∀ N, SymOK κ g caps L rest b cap n w0 N := by
  intro N
  induction N with
  | zero => intro P U V Q a m e w _ _ _ _ h1 h2 h3; omega
  | succ N ih =>
    intro P U V Q a m e w ha hm he hn h1 h2 h3 hU hV hx hL hk hR
    by_cases hu : U.length = 1
    · obtain ⟨x, rfl⟩ := List.length_eq_one_iff.1 hu
      have := sym_one κ g caps L P V Q x rest b cap a m e n ha (by simpa using hm) (by simpa using he) (by simpa using hn) hl hV (fun y hy => hx x (by simp) y hy) (by simpa using hL) w0 w hc hk (hR.cast (by simp))
      exact this
    · by_cases hv : V.length = 1
      · obtain ⟨y, rfl⟩ := List.length_eq_one_iff.1 hv
        exact sym_last κ g caps L P U Q y rest b cap a m e n ha hm (by simpa using he) (by simpa using hn) (by omega) hl hU (fun x hx' => hx x hx' y (by simp)) (by simpa using hL) w0 w hc hk (hR.cast (by simp))
      · exact sym_main κ g caps L P U V Q rest b cap a m e n N ha hm he hn (by omega) (by omega) h3 hl hU hV hx hL w0 w hc hk hR ih
end Ps
end Go.Proofs.YticmfflnenoplaaDoor
namespace Go.Proofs.YticmfflnenoplaaDoor
open Go.RowKit
namespace Ps
section
variable {κ : Int → Int}
/-- Sorted blocks, each below the next ones. -/
def Ok (κ : Int → Int) (cs : List (List Int)) : Prop := (∀ c ∈ cs, Sd κ c) ∧ cs.Pairwise (fun c d => ∀ x ∈ c, ∀ y ∈ d, x < y)
/-- All but the last are of the size s. -/
def Full (s : Nat) : List (List Int) → Prop
  | [] => True
  | [c] => 0 < c.length ∧ c.length ≤ s
  | c :: d :: r => c.length = s ∧ Full s (d :: r)
theorem Full.tail {s : Nat} {c : List Int} {r : List (List Int)} (h : Full s (c :: r)) : Full s r := by
  cases r with
  | nil => trivial
  | cons d r => exact h.2
theorem Full.pos {s : Nat} (hs : 0 < s) {c : List Int} {r : List (List Int)} (h : Full s (c :: r)) : 0 < c.length ∧ c.length ≤ s := by
  cases r with
  | nil => exact h
  | cons d r => have := h.1; omega
theorem Full.all {s : Nat} (hs : 0 < s) : ∀ {cs : List (List Int)}, (∀ c ∈ cs, c.length = s) → Full s cs
  | [], _ => trivial
  | [c], h => by have := h c (by simp); exact ⟨by omega, by omega⟩
  | c :: d :: r, h => ⟨h c (by simp), Full.all hs (cs := d :: r) (fun x hx => h x (List.mem_cons_of_mem _ hx))⟩
theorem Full.snoc {s : Nat} : ∀ {cs : List (List Int)} {e : List Int}, (∀ c ∈ cs, c.length = s) → 0 < e.length → e.length ≤ s → Full s (cs ++ [e])
  | [], e, _, h1, h2 => ⟨h1, h2⟩
  | [c], e, h, h1, h2 => ⟨h c (by simp), h1, h2⟩
  | c :: d :: r, e, h, h1, h2 => ⟨h c (by simp), Full.snoc (cs := d :: r) (fun x hx => h x (List.mem_cons_of_mem _ hx)) h1 h2⟩
/-- Two whole blocks at the head. -/
theorem Full.two {s : Nat} (hs : 0 < s) {cs : List (List Int)} (h : Full s cs) (hl : 2 * s ≤ cs.flatten.length) : ∃ U V r, cs = U :: V :: r ∧ U.length = s ∧ V.length = s := by
  match cs, h with
  | [], _ => simp at hl; omega
  | [c], h => have := h.2; simp at hl; omega
  | [c, d], h =>
    obtain ⟨h1, h2, h3⟩ := h
    simp at hl
    exact ⟨c, d, [], rfl, h1, by omega⟩
  | c :: d :: e :: r, h => exact ⟨c, d, e :: r, rfl, h.1, h.2.1⟩
/-- One, and a part of another one. -/
theorem Full.part {s : Nat} (_hs : 0 < s) {cs : List (List Int)} (h : Full s cs) (h1 : s < cs.flatten.length) (h2 : cs.flatten.length < 2 * s) : ∃ U V, cs = [U, V] ∧ U.length = s ∧ 0 < V.length ∧ V.length < s := by
  match cs, h with
  | [], _ => simp at h1
  | [c], h => have := h.2; simp at h1; omega
  | [c, d], h =>
    obtain ⟨h3, h4, h5⟩ := h
    simp at h1 h2
    exact ⟨c, d, rfl, h3, h4, by omega⟩
  | c :: d :: e :: r, h =>
    have := h.1
    have := h.2.1
    simp at h2
    omega
theorem Full.few {s : Nat} (hs : 0 < s) {cs : List (List Int)} (h : Full s cs) (h1 : cs.flatten.length ≤ s) : cs = [] ∨ ∃ c, cs = [c] ∧ 0 < c.length ∧ c.length ≤ s := by
  match cs, h with
  | [], _ => exact .inl rfl
  | [c], h => exact .inr ⟨c, rfl, h.1, h.2⟩
  | c :: d :: r, h =>
    have := h.1
    have := (Full.pos hs h.2).1
    simp at h1
    omega
theorem Ok.app {a b : List (List Int)} (h : Ok κ (a ++ b)) : Ok κ a ∧ Ok κ b ∧ ∀ c ∈ a, ∀ d ∈ b, ∀ x ∈ c, ∀ y ∈ d, x < y := by
  obtain ⟨h1, h2⟩ := h
  obtain ⟨h3, h4, h5⟩ := List.pairwise_append.1 h2
  exact ⟨⟨fun c hc => h1 c (List.mem_append_left _ hc), h3⟩, ⟨fun c hc => h1 c (List.mem_append_right _ hc), h4⟩, h5⟩
/-- Two blocks side by side become one. -/
theorem Ok.merge {a r : List (List Int)} {U V W : List Int} (h : Ok κ (a ++ U :: V :: r)) (hp : W.Perm (U ++ V)) (hs : Sd κ W) : Ok κ ((a ++ [W]) ++ r) := by
  obtain ⟨h1, h2, h3⟩ := h.app
  obtain ⟨h4, h5⟩ := h2
  rw [List.append_assoc]
  have hm : ∀ x ∈ W, x ∈ U ∨ x ∈ V := fun x hx => List.mem_append.1 (hp.subset hx)
  have hr := (List.pairwise_cons.1 (List.pairwise_cons.1 h5).2)
  have hu := (List.pairwise_cons.1 h5).1
  constructor
  · intro c hc
    rcases List.mem_append.1 hc with hc | hc
    · exact h1.1 c hc
    · rcases List.mem_cons.1 hc with rfl | hc
      · exact hs
      · exact h4 c (List.mem_cons_of_mem _ (List.mem_cons_of_mem _ hc))
  · refine List.pairwise_append.2 ⟨h1.2, List.pairwise_cons.2 ⟨fun d hd x hx y hy => ?_, hr.2⟩, fun c hc d hd x hx y hy => ?_⟩
    · rcases hm x hx with h | h
      · exact hu d (List.mem_cons_of_mem _ hd) x h y hy
      · exact hr.1 d hd x h y hy
    · rcases List.mem_cons.1 hd with rfl | hd
      · rcases hm y hy with h | h
        · exact h3 c hc U (by simp) x hx y h
        · exact h3 c hc V (by simp) x hx y h
      · exact h3 c hc d (List.mem_cons_of_mem _ (List.mem_cons_of_mem _ hd)) x hx y hy
/-- One more block is sorted. -/
theorem Ok.snoc {a : List (List Int)} {S : List Int} (h : Ok κ a) (hs : Sd κ S) (hx : ∀ c ∈ a, ∀ x ∈ c, ∀ y ∈ S, x < y) : Ok κ (a ++ [S]) := by
  refine ⟨fun c hc => ?_, List.pairwise_append.2 ⟨h.2, List.pairwise_singleton _ _, fun c hc d hd x hx' y hy => ?_⟩⟩
  · rcases List.mem_append.1 hc with hc | hc
    · exact h.1 c hc
    · rw [List.mem_singleton.1 hc]; exact hs
  · rw [List.mem_singleton.1 hd] at hy
    exact hx c hc x hx' y hy
end
theorem CmpIs.sub {κ : Int → Int} {g : Nat} {caps : Array Value} {b : Nat} {L D : List Int} {w0 w : World} (h : CmpIs κ g caps b L w0) (hk : Kept (fun k => k = b) w0 w) (hs : ∀ x ∈ D, x ∈ L) : CmpIs κ g caps b D w :=
  ⟨h.key, h.ent, fun W hW x hx y hy => h.run W (hk.trans hW) x (hs x hx) y (hs y hy)⟩
/-- The state of the first loop: so many blocks done, the rest as it was. -/
def First (κ : Int → Int) (s : Nat) (L : List Int) (a : Nat) (D : List Int) : Prop := ∃ cs, D = cs.flatten ++ L.drop a ∧ cs.flatten.length = a ∧ cs.flatten.Perm (L.take a) ∧ Ok κ cs ∧ ∀ c ∈ cs, c.length = s
theorem First.start (κ : Int → Int) (s : Nat) (L : List Int) : First κ s L 0 L := ⟨[], rfl, rfl, by simp, ⟨fun c hc => (by cases hc), List.Pairwise.nil⟩, fun c hc => (by cases hc)⟩
/-- The state of the others: blocks of the size s. -/
def Blocks (κ : Int → Int) (s : Nat) (L D : List Int) : Prop := ∃ cs, D = cs.flatten ∧ D.Perm L ∧ Ok κ cs ∧ Full s cs
/-- The state of a round of merging. -/
def Round (κ : Int → Int) (s : Nat) (L : List Int) (a : Nat) (D : List Int) : Prop := ∃ cs ds, D = cs.flatten ++ ds.flatten ∧ cs.flatten.length = a ∧ D.Perm L ∧ Ok κ (cs ++ ds) ∧ (∀ c ∈ cs, c.length = 2 * s) ∧ Full s ds
section
variable {κ : Int → Int} {s a e : Nat} {L D : List Int}
theorem First.len (h : First κ s L a D) (ha : a ≤ L.length) : D.length = L.length ∧ D.Perm L ∧ seg D a e = seg L a e ∧ D.take a ++ D.drop a = D := by
  obtain ⟨cs, rfl, h1, h2, h3, h4⟩ := h
  have hl : (cs.flatten ++ L.drop a).length = L.length := by simp only [List.length_append, List.length_drop]; omega
  refine ⟨hl, ?_, ?_, by simp⟩
  · have := h2.append_right (L.drop a)
    rw [List.take_append_drop] at this
    exact this
  · unfold seg
    rw [List.drop_take, List.drop_take, List.drop_left' h1]
theorem First.step (h : First κ s L a D) (hL : L.Pairwise (· < ·)) (he : e ≤ L.length) (hae : a ≤ e) {S : List Int} (hp : S.Perm (seg D a e)) (hs : Sd κ S) :
    ∃ cs : List (List Int), D.take a ++ S ++ D.drop e = cs.flatten ++ S ++ L.drop e ∧ cs.flatten.length = a ∧ S.length = e - a ∧ (cs.flatten ++ S).Perm (L.take e) ∧ Ok κ cs ∧ (∀ c ∈ cs, c.length = s) ∧ Ok κ (cs ++ [S]) := by
  rw [(h.len (e := e) (by omega)).2.2.1] at hp
  obtain ⟨cs, rfl, h1, h2, h3, h4⟩ := h
  have hsl : S.length = e - a := by rw [hp.length_eq, seg_len he]
  have hcut : L.take a ++ seg L a e = L.take e := by
    unfold seg
    conv => rhs; rw [← List.take_append_drop a (L.take e), List.take_take, Nat.min_eq_left hae]
  have hpw : (L.take e).Pairwise (· < ·) := hL.sublist (List.take_sublist _ _)
  rw [← hcut] at hpw
  refine ⟨cs, ?_, h1, hsl, ?_, h3, h4, h3.snoc hs fun c hc x hx y hy => ?_⟩
  · congr 1
    · rw [List.take_left' h1]
    · rw [List.drop_append, List.drop_eq_nil_of_le (by omega), List.nil_append, List.drop_drop]
      congr 1
      omega
  · have := h2.append hp
    rw [hcut] at this
    exact this
  · exact (List.pairwise_append.1 hpw).2.2 x (h2.subset (List.mem_flatten.2 ⟨c, hc, hx⟩)) y (hp.subset hy)
theorem First.next (h : First κ s L a D) (hL : L.Pairwise (· < ·)) (he : e ≤ L.length) (hae : e = a + s) {S : List Int} (hp : S.Perm (seg D a e)) (hs : Sd κ S) : First κ s L e (D.take a ++ S ++ D.drop e) := by
  obtain ⟨cs, g1, g2, g3, g4, g5, g6, g7⟩ := h.step hL he (by omega) hp hs
  refine ⟨cs ++ [S], by rw [g1]; simp, by simp only [List.flatten_append, List.flatten_singleton, List.length_append]; omega, by simpa using g4, g7, fun c hc => ?_⟩
  rcases List.mem_append.1 hc with hc | hc
  · exact g6 c hc
  · rw [List.mem_singleton.1 hc]; omega
theorem First.last (h : First κ s L a D) (hL : L.Pairwise (· < ·)) (ha : a ≤ L.length) (hs0 : 0 < s) (hae : L.length < a + s) {S : List Int} (hp : S.Perm (seg D a L.length)) (hs : Sd κ S) : Blocks κ s L (D.take a ++ S ++ D.drop L.length) := by
  obtain ⟨cs, g1, g2, g3, g4, g5, g6, g7⟩ := h.step hL (Nat.le_refl _) ha hp hs
  rw [g1, List.drop_length, List.append_nil]
  rw [List.take_length] at g4
  by_cases hz : S.length = 0
  · obtain rfl := List.length_eq_zero_iff.1 hz
    exact ⟨cs, by simp, g4, g5, Full.all hs0 g6⟩
  · exact ⟨cs ++ [S], by simp, g4, g7, Full.snoc g6 (by omega) (by omega)⟩
theorem Blocks.round (h : Blocks κ s L D) : Round κ s L 0 D := by
  obtain ⟨cs, rfl, h1, h2, h3⟩ := h
  exact ⟨[], cs, rfl, rfl, h1, h2, fun c hc => (by cases hc), h3⟩
/-- What a merge in a round is of, and what it brings. -/
theorem Round.two (h : Round κ s L a D) (hs : 0 < s) (hb : a + 2 * s ≤ D.length) : ∃ P U V Q : List Int, D = P ++ U ++ V ++ Q ∧ P.length = a ∧ U.length = s ∧ V.length = s ∧ Sd κ U ∧ Sd κ V ∧ (∀ x ∈ U, ∀ y ∈ V, x < y) ∧ ∀ W : List Int, W.Perm (U ++ V) → Sd κ W → Round κ s L (a + 2 * s) (P ++ W ++ Q) := by
  obtain ⟨cs, ds, rfl, h1, h2, h3, h4, h5⟩ := h
  obtain ⟨U, V, r, rfl, hu, hv⟩ := h5.two hs (by rw [List.length_append] at hb; omega)
  obtain ⟨o1, o2, o3⟩ := h3.app
  refine ⟨cs.flatten, U, V, r.flatten, by simp, h1, hu, hv, o2.1 U (by simp), o2.1 V (by simp), fun x hx y hy => (List.pairwise_cons.1 o2.2).1 V (by simp) x hx y hy, fun W hp hw => ?_⟩
  refine ⟨cs ++ [W], r, by simp, by simp only [List.flatten_append, List.flatten_singleton, List.length_append, hp.length_eq]; omega, ?_, h3.merge hp hw, fun c hc => ?_, h5.tail.tail⟩
  · refine List.Perm.trans ?_ h2
    have := (hp.append_right r.flatten).append_left cs.flatten
    simpa using this
  · rcases List.mem_append.1 hc with hc | hc
    · exact h4 c hc
    · rw [List.mem_singleton.1 hc, hp.length_eq, List.length_append]; omega
theorem Round.part (h : Round κ s L a D) (hs : 0 < s) (hb : D.length < a + 2 * s) (hm : a + s < D.length) : ∃ P U V : List Int, D = P ++ U ++ V ∧ P.length = a ∧ U.length = s ∧ 0 < V.length ∧ Sd κ U ∧ Sd κ V ∧ (∀ x ∈ U, ∀ y ∈ V, x < y) ∧ ∀ W : List Int, W.Perm (U ++ V) → Sd κ W → Blocks κ (2 * s) L (P ++ W ++ []) := by
  obtain ⟨cs, ds, rfl, h1, h2, h3, h4, h5⟩ := h
  rw [List.length_append] at hb hm
  obtain ⟨U, V, rfl, hu, hv, hv2⟩ := h5.part hs (by omega) (by omega)
  obtain ⟨o1, o2, o3⟩ := h3.app
  refine ⟨cs.flatten, U, V, by simp, h1, hu, hv, o2.1 U (by simp), o2.1 V (by simp), fun x hx y hy => (List.pairwise_cons.1 o2.2).1 V (by simp) x hx y hy, fun W hp hw => ?_⟩
  refine ⟨cs ++ [W], by simp, ?_, by simpa using h3.merge hp hw, Full.snoc h4 (by rw [hp.length_eq, List.length_append]; omega) (by rw [hp.length_eq, List.length_append]; omega)⟩
  refine List.Perm.trans ?_ h2
  have := hp.append_left cs.flatten
  simpa using this
theorem Round.none (h : Round κ s L a D) (hs : 0 < s) (hm : D.length ≤ a + s) : Blocks κ (2 * s) L D := by
  obtain ⟨cs, ds, rfl, h1, h2, h3, h4, h5⟩ := h
  rw [List.length_append] at hm
  rcases h5.few hs (by omega) with rfl | ⟨c, rfl, c1, c2⟩
  · exact ⟨cs, by simp, h2, by simpa using h3, Full.all (by omega) h4⟩
  · exact ⟨cs ++ [c], by simp, h2, h3, Full.snoc h4 c1 (by omega)⟩
theorem Blocks.done (h : Blocks κ s L D) (hs : 0 < s) (hl : L.length ≤ s) : D.Perm L ∧ Sd κ D := by
  obtain ⟨cs, rfl, h1, h2, h3⟩ := h
  refine ⟨h1, ?_⟩
  rcases h3.few hs (by rw [h1.length_eq]; exact hl) with rfl | ⟨c, rfl, _⟩
  · exact List.Pairwise.nil
  · have := h2.1 c (by simp)
    simpa using this
end
end Ps
end Go.Proofs.YticmfflnenoplaaDoor
namespace Go.Proofs.YticmfflnenoplaaDoor
open Go.RowKit
namespace Ps
/-- What the sort leaves. -/
def SortDone (κ : Int → Int) (b : Nat) (L : List Int) (rest : List Value) (w : World) (e1 : Ending) (w' : World) : Prop := ∃ W, e1 = .returned (.tuple #[]) ∧ W.Perm L ∧ Sd κ W ∧ IRow w' b W rest ∧ Kept (fun k => k = b) w w'
set_option maxRecDepth 100000 in
set_option maxHeartbeats 8000000 in
theorem stable_any (κ : Int → Int) (g : Nat) (caps : Array Value) (L : List Int) (rest : List Value) (b cap : Nat) (hl : L.length ≤ 64) (hris : L.Pairwise (· < ·)) (w : World) (hc : CmpIs κ g caps b L w) (h : IRow w b L rest) :
    Calls Tryd.prog 68 #[.slice (some ⟨b, 0, none⟩) L.length cap, .int .i64 L.length, .func (.func g) #[] caps] w (SortDone κ b L rest w) := by
  have H := Lib.hid h
  have HC := Lib.hid hc
  have HRI := Lib.hid hris
  have HF := Lib.hid (First.start κ 20 L)
  have HN : Hid (∀ D : List Int, D.Perm L → D.length = L.length) := Lib.hid (fun D hD => hD.length_eq)
  clear h hc hris
  generalize hn : L.length = n at *
  have HLN := Lib.hid hn
  clear hn
  go_enter Tryd.func68, Tryd.ntmps68
  go_wp2_with fail
  go_loopw [7, 8] (fun x y wr => ∃ (a a2 : Nat) (D : List Int), x = .int .i64 a ∧ y = .int .i64 a2 ∧ a2 = a + 20 ∧ a ≤ n ∧ Hid (First κ 20 L a D) ∧ Hid (IRow wr b D rest) ∧ Kept (fun k => k = b) w wr) (fun x _ _ => n - (intOf x).toNat)
  case atStart => exact ⟨0, 20, L, rfl, rfl, rfl, by omega, HF, H, Kept.refl _ _⟩
  case round =>
    clear HF H
    obtain ⟨a, a2, D, rfl, rfl, ha2, han, HF, HR, hkp⟩ := hrel
    have hll := HLN.out
    have hDl := (HF.out.len (e := n) (by omega)).1
    have hDp := (HF.out.len (e := n) (by omega)).2.1
    have hcd := HC.out.sub hkp (fun x hx => hDp.subset hx)
    by_cases hlt : a2 ≤ n
    · have hsg : (seg D a a2).Pairwise (· < ·) := by
        rw [(HF.out.len (e := a2) (by omega)).2.2.1]
        unfold seg
        exact (HRI.out.sublist (List.take_sublist _ _)).sublist (List.drop_sublist _ _)
      have hci := insertion_any κ g caps D rest b cap a a2 (by omega) (by omega) (by omega) hsg wr hcd HR.out
      have HNX := Lib.hid (fun S hp hs => HF.out.next (S := S) (e := a2) HRI.out (by omega) ha2 hp hs)
      rw [hDl, hll] at hci
      have HCI := Lib.hid hci
      have i1 : a < a2 := by omega
      clear hci hsg hcd hDp hDl hll HF HC HRI HLN HN ha2
      go_wp2_with fail
      refine HCI.out.mono ?_
      intro e1 w1 hM
      have hM2 : InsDone κ b D a a2 rest wr e1 w1 := hM
      obtain ⟨S, rfl, m1, m2, m3, m4⟩ := hM2
      have HF2 := Lib.hid (HNX.out S m1 m2)
      have M3 := Lib.hid m3
      have hkm := hkp.trans m4
      clear hM m1 m2 m3 HNX
      go_wp2_with fail
      go_roundw
      case rel => exact ⟨a2, a2 + 20, _, rfl, by go_num, rfl, by omega, HF2, M3, hkm⟩
      case measure => simp [intOf] <;> omega
    · have hsg : (seg D a n).Pairwise (· < ·) := by
        rw [(HF.out.len (e := n) (by omega)).2.2.1]
        unfold seg
        exact (HRI.out.sublist (List.take_sublist _ _)).sublist (List.drop_sublist _ _)
      have hci := insertion_any κ g caps D rest b cap a n (by omega) (by omega) (by omega) hsg wr hcd HR.out
      have hnx := fun S (hp : S.Perm (seg D a L.length)) hs => HF.out.last (S := S) HRI.out (by omega) (by omega) (by omega) hp hs
      rw [hll] at hnx
      have HNX := Lib.hid hnx
      rw [hDl, hll] at hci
      have HCI := Lib.hid hci
      clear hci hsg hcd hDp hDl hll HF hnx ha2 HRI
      go_wp2_with fail
      refine HCI.out.mono ?_
      intro e1 w1 hM
      have hM2 : InsDone κ b D a n rest wr e1 w1 := hM
      obtain ⟨S, rfl, m1, m2, m3, m4⟩ := hM2
      have HB2 := Lib.hid (HNX.out S m1 m2)
      have M3 := Lib.hid m3
      have hkm := hkp.trans m4
      clear hM m1 m2 m3 HNX HR hkp m4 HCI
      generalize D.take a ++ S ++ D.drop n = D2 at *
      go_wp2_with fail
      obtain ⟨wo, rfl⟩ : ∃ wo : World, wo = w1 := ⟨_, rfl⟩
      go_loopw [6] (fun x wr => ∃ (s : Nat) (D : List Int), x = .int .i64 s ∧ 20 ≤ s ∧ s ≤ 200 ∧ Hid (Blocks κ s L D) ∧ Hid (IRow wr b D rest) ∧ Kept (fun k => k = b) w wr) (fun x _ => 64 - (intOf x).toNat)
      case atStart => exact ⟨20, D2, rfl, by omega, by omega, HB2, M3, hkm⟩
      case round =>
        clear HB2 M3 hkm
        obtain ⟨s, D3, rfl, hs1, hs2, HB, HR, hkp⟩ := hrel
        by_cases hsn : s < n
        · have HRD := Lib.hid HB.out.round
          obtain ⟨s2, hs2e⟩ : ∃ s2, s2 = 2 * s := ⟨_, rfl⟩
          have hs2i : (2 : Int) * s = s2 := by omega
          have hs3i : (s : Int) * 2 = s2 := by omega
          have HS2E := Lib.hid hs2e
          have j1 : s2 ≤ 2 * s := by omega
          have j2 : 2 * s ≤ s2 := by omega
          clear hs2e
          clear HB
          go_wp2_with fail
          obtain ⟨wp, rfl⟩ : ∃ wp : World, wp = wr := ⟨_, rfl⟩
          go_loopw [7, 8] (fun x y wr => ∃ (a a2 : Nat) (D : List Int), x = .int .i64 a ∧ y = .int .i64 a2 ∧ a2 = a + s2 ∧ a ≤ n ∧ Hid (Round κ s L a D) ∧ Hid (D.Perm L) ∧ Hid (IRow wr b D rest) ∧ Kept (fun k => k = b) w wr) (fun x _ _ => n - (intOf x).toNat)
          case atStart => exact ⟨0, s2, D3, rfl, rfl, by omega, by omega, HRD, Lib.hid (by
            obtain ⟨_, _, _, _, h, _⟩ := HRD.out
            exact h), HR, hkp⟩
          case round =>
            clear HRD HR hkp
            obtain ⟨a, a2, D, rfl, rfl, ha2, han, HRD, HPM, HR, hkp⟩ := hrel
            have hDl := HN.out D HPM.out
            by_cases hlt : a2 ≤ n
            · obtain ⟨P, U, V, Q, hD, p1, p2, p3, p4, p5, p6, p7⟩ := HRD.out.two (by omega) (by omega)
              have hnl : n = P.length + U.length + V.length + Q.length := by rw [← hDl, hD]; simp; omega
              have hcm := symMerge_any κ g caps L rest b cap n (by omega) w HC.out (U.length + V.length) P U V Q a (a + s) a2 wr (by omega) (by omega) (by omega) hnl (by omega) (by omega) (Nat.le_refl _) p4 p5 p6 (fun z hz => HPM.out.subset (by rw [hD]; exact hz)) hkp (HR.out.cast hD)
              have HCM := Lib.hid hcm
              have HP7 := Lib.hid p7
              have e1 : (((a + s : Nat) : Int)) = (a : Int) + s := by omega
              rw [e1] at HCM
              have i1 : a < a2 := by omega
              have ha4 : a + 2 * s = a2 := by omega
              rw [ha4] at HP7
              clear hcm p7 e1 ha4 p4 p5 p6 hD hnl HRD ha2 p1 p2 p3
              go_wp2_with fail
              refine HCM.out.mono ?_
              intro e1 w1 hM
              have hM2 : MergeDone κ b P U V Q rest wr e1 w1 := hM
              obtain ⟨W, rfl, m1, m2, m3, m4⟩ := hM2
              have HR2 := Lib.hid (HP7.out W m1 m2)
              have HPM2 : Hid ((P ++ W ++ Q).Perm L) := Lib.hid (by
                obtain ⟨_, _, _, _, h, _⟩ := HR2.out
                exact h)
              have M3 := Lib.hid m3
              have hkm := hkp.trans m4
              clear hM m1 m2 m3 HP7
              go_wp2_with fail
              go_roundw
              case rel => exact ⟨a2, a2 + s2, _, rfl, by go_num, rfl, by omega, HR2, HPM2, M3, hkm⟩
              case measure => simp [intOf] <;> omega
            · by_cases hm : a + s < n
              · obtain ⟨P, U, V, hD, p1, p2, p3, p4, p5, p6, p7⟩ := HRD.out.part (by omega) (by omega) (by omega)
                have hnl : n = P.length + U.length + V.length + ([] : List Int).length := by rw [← hDl, hD]; simp; omega
                have hcm := symMerge_any κ g caps L rest b cap n (by omega) w HC.out (U.length + V.length) P U V [] a (a + s) n wr (by omega) (by omega) (by simp at hnl; omega) hnl (by omega) (by omega) (Nat.le_refl _) p4 p5 p6 (fun z hz => HPM.out.subset (by rw [hD]; simpa using hz)) hkp (HR.out.cast (by simpa using hD))
                have HCM := Lib.hid hcm
                have HP7 := Lib.hid p7
                have e1 : (((a + s : Nat) : Int)) = (a : Int) + s := by omega
                rw [e1] at HCM
                have hmi : (a : Int) + s < n := by omega
                rw [← HS2E.out] at HP7
                clear hcm p7 e1 p4 p5 p6 hD hnl HRD ha2 p1 p2 p3
                go_wp2_with fail
                refine HCM.out.mono ?_
                intro e1 w1 hM
                have hM2 : MergeDone κ b P U V [] rest wr e1 w1 := hM
                obtain ⟨W, rfl, m1, m2, m3, m4⟩ := hM2
                have HR2 := Lib.hid (HP7.out W m1 m2)
                have M3 := Lib.hid m3
                have hkm := hkp.trans m4
                clear hM m1 m2 m3 HP7
                go_wp2_with fail
                go_roundw
                case rel => exact ⟨s2, _, rfl, by omega, by omega, HR2, M3, hkm⟩
                case measure => simp [intOf] <;> omega
              · have hb := HRD.out.none (by omega) (by omega)
                rw [← HS2E.out] at hb
                have HB2 := Lib.hid hb
                have hmi : (n : Int) ≤ (a : Int) + s := by omega
                clear hb HRD ha2
                go_wp2_with fail
                go_roundw
                case rel => exact ⟨s2, _, rfl, by omega, by omega, HB2, HR, hkp⟩
                case measure => simp [intOf] <;> omega
        · obtain ⟨d1, d2⟩ := HB.out.done (by omega) (by rw [HLN.out]; omega)
          have D1 := Lib.hid (And.intro d1 d2)
          clear d1 d2 HB
          go_wp2_with fail
          go_end0
          exact ⟨D3, rfl, D1.out.1, D1.out.2, HR.out, hkp⟩
set_option maxHeartbeats 400000 in
theorem sortStable_any (κ : Int → Int) (g : Nat) (caps : Array Value) (L : List Int) (rest : List Value) (b cap : Nat) (hl : L.length ≤ 64) (hris : L.Pairwise (· < ·)) (w : World) (hc : CmpIs κ g caps b L w) (h : IRow w b L rest) :
    Calls Tryd.prog 59 #[.slice (some ⟨b, 0, none⟩) L.length cap, .func (.func g) #[] caps] w (SortDone κ b L rest w) := by
  have HS := Lib.hid (stable_any κ g caps L rest b cap hl hris w hc h)
  clear hc h hris
  go_enter Tryd.func59, Tryd.ntmps59
  go_wp2_with fail
  refine HS.out.mono ?_
  intro e1 w1 hM
  have hM2 : SortDone κ b L rest w e1 w1 := hM
  obtain ⟨W, rfl, m1, m2, m3, m4⟩ := hM2
  have M1 := Lib.hid (And.intro m1 m2)
  have M3 := Lib.hid m3
  clear hM m1 m2 m3
  go_wp2_with fail
  go_end0
  exact ⟨W, rfl, M1.out.1, M1.out.2, M3.out, m4⟩
end Ps
end Go.Proofs.YticmfflnenoplaaDoor
namespace Go.Proofs.YticmfflnenoplaaDoor
open Go.RowKit Go.Deep Go.Maps Pop Bi Tp Pk
namespace Ps
set_option maxHeartbeats 1000000 in
theorem insertion_none (v cv : Value) (w : World) : Calls Tryd.prog 78 #[v, .int .i64 0, .int .i64 0, cv] w (fun e1 w' => e1 = .returned (.tuple #[]) ∧ w = w') := by
  go_enter Tryd.func78, Tryd.ntmps78
  go_wp2_with fail
  refine wp_loop_rounds 1 ?_
  rw [rounds_succ]
  go_wp2_with fail
  go_end0
  exact ⟨rfl, rfl⟩
set_option maxHeartbeats 1000000 in
theorem sortStable_none (A : Option Addr) (cap : Nat) (cv : Value) (w : World) : Calls Tryd.prog 59 #[.slice A 0 cap, cv] w (fun e1 w' => e1 = .returned (.tuple #[]) ∧ w = w') := by
  have h1 : Calls Tryd.prog 68 #[.slice A 0 cap, .int .i64 0, cv] w (fun e1 w' => e1 = .returned (.tuple #[]) ∧ w = w') := by
    have HI := Lib.hid (insertion_none (.slice A 0 cap) cv w)
    go_enter Tryd.func68, Tryd.ntmps68
    go_wp2_with fail
    refine wp_loop_rounds 1 ?_
    rw [rounds_succ]
    go_wp2_with fail
    refine HI.out.mono ?_
    rintro e w1 ⟨rfl, rfl⟩
    go_wp2_with fail
    refine wp_loop_rounds 1 ?_
    rw [rounds_succ]
    go_wp2_with fail
    go_end0
    exact ⟨rfl, rfl⟩
  have H1 := Lib.hid h1
  clear h1
  go_enter Tryd.func59, Tryd.ntmps59
  go_wp2_with fail
  refine H1.out.mono ?_
  rintro e w1 ⟨rfl, rfl⟩
  go_wp2_with fail
  go_end0
  exact ⟨rfl, rfl⟩
end Ps
/-- What the map holds after so many. -/
def cntF (l : List Cpu) (fr k : Nat) (x : Int) : Option Value := if x ∈ (Pk.ints fr).take k then some (.int .i64 (kap l fr x)) else none
theorem cntF_zero (l : List Cpu) (fr : Nat) (x : Int) : cntF l fr 0 x = none := by simp [cntF]
theorem cntF_at (l : List Cpu) (fr k : Nat) {x : Int} (hk : k < (Pk.ints fr).length) (hx : (Pk.ints fr)[k] = x) : cntF l fr (k + 1) x = some (.int .i64 (kap l fr x)) := by
  unfold cntF
  rw [if_pos]
  rw [List.take_succ_eq_append_getElem hk, hx]
  simp
theorem cntF_other (l : List Cpu) (fr k : Nat) {x : Int} (hk : k < (Pk.ints fr).length) (hx : (Pk.ints fr)[k] = x) : ∀ y, y ≠ x → cntF l fr (k + 1) y = cntF l fr k y := by
  intro y hy
  unfold cntF
  rw [List.take_succ_eq_append_getElem hk, hx]
  simp [hy]
theorem cntF_all (l : List Cpu) (fr : Nat) {x : Int} (hx : x ∈ Pk.ints fr) : cntF l fr (Pk.ints fr).length x = some (.int .i64 (kap l fr x)) := by
  unfold cntF
  rw [if_pos]
  rw [List.take_length]
  exact hx
theorem singles_left {l : List Int} (hl : ∀ x ∈ l, 0 ≤ x ∧ x.toNat < 64) : ∀ {h : Hd}, (singles h l).left = h.left - l.length := by
  induction l with
  | nil => intro h; rfl
  | cons x l ih =>
    intro h
    rw [singles, ih (fun y hy => hl y (List.mem_cons_of_mem _ hy))]
    show h.left - cnt (2 ^ x.toNat) 64 - l.length = _
    rw [pow_cnt (hl x (by simp)).2, List.length_cons]
    omega
theorem row_uniq (l : List Cpu) (fr : Nat) {W : List Int} (h1 : W.Perm (Pk.ints fr)) (h2 : Ps.Sd (kap l fr) W) : W = row l fr :=
  Ps.Sd.unique (h1.trans (sortK_perm _ _).symm) h2 (sortK_sd (ints_nodup fr))
end Go.Proofs.YticmfflnenoplaaDoor
namespace Go.Proofs.YticmfflnenoplaaDoor
open Go.RowKit Go.Deep Go.ChangeShapes Go.Maps Pop Bi Tp Pk
theorem cell_heap {w w' : World} {b i : Nat} (h : w'.heap[b]? = w.heap[b]?) : w'.cell? ⟨b, i, none⟩ = w.cell? ⟨b, i, none⟩ := by simp [World.cell?, h]
theorem irow_of {w : World} {base n b cap : Nat} {xs : List Nat} (h : w.ownsRow base 3 1 (.slice (some ⟨b, 0, none⟩) n cap) n (natV xs)) : ∃ rest, Ps.IRow w b (xs.map fun n : Nat => (n : Int)) rest ∧ base ≤ b := by
  obtain ⟨h1, h2⟩ := h
  rcases h2 with ⟨h2, _⟩ | ⟨g, c, cur, h3, h4, h5, h6, h7, h8⟩
  · cases h2
  · simp only [Value.slice.injEq, Option.some.injEq, Addr.mk.injEq, and_true, true_and] at h3
    obtain ⟨rfl, rfl⟩ := h3
    have hp := h8.1
    refine ⟨cur.toList.drop (natV xs).length, ?_, h4⟩
    unfold Ps.IRow Blk
    rw [h5]
    congr 2
    have e1 : Ps.ints (xs.map fun n : Nat => (n : Int)) = natV xs := by simp [Ps.ints, natV]
    have e2 : cur.toList.take (natV xs).length = natV xs := by
      have := h8.2
      rw [h1]
      exact this
    apply Array.toList_inj.1
    rw [e1]
    show cur.toList = natV xs ++ cur.toList.drop (natV xs).length
    conv => lhs; rw [← List.take_append_drop (natV xs).length cur.toList]
    rw [e2]
/-- What holds while the keys are counted. -/
structure SI (w3 : World) (q p t B c mb k : Nat) (h : Hd) (l : List Cpu) (f : Int → Option Value) (v : World) : Prop where
  bc : Blk v c 95 #[.map (some mb)]
  bq : Blk v q 64 #[.pointer (some ⟨p, 0, none⟩)]
  hp : HandAt v p t h
  tp : TopoAt v (· < B) t l
  mp : MapF v Tryd.prog 3 kI mb k f
  kp : Kept (fun x => x = mb) w3 v
section
variable {w3 : World} {q p t B c mb k : Nat} {h : Hd} {l : List Cpu} {f : Int → Option Value} {v v' : World}
theorem SI.drew (s : SI w3 q p t B c mb k h l f v) : SI w3 q p t B c mb k h l f v.drew := ⟨s.bc.drew, s.bq.drew, Blk.drew s.hp, s.tp.move rfl (fun _ _ => rfl) (fun _ h => h), s.mp.drew, s.kp.drew⟩
theorem SI.below (s : SI w3 q p t B c mb k h l f v) (hb : Below v.heap.size v v') (hB : B ≤ v.heap.size) (ht : t < v.heap.size) : SI w3 q p t B c mb k h l f v' :=
  ⟨s.bc.below hb s.bc.lt, s.bq.below hb s.bq.lt, Blk.below s.hp hb (Blk.lt s.hp), s.tp.move (hb.block t ht) (fun b hb' => hb.block b (by omega)) (fun _ h => h), s.mp.below hb s.mp.lt, s.kp.thenB hb⟩
theorem SI.put (s : SI w3 q p t B c mb k h l f v) {g : Int → Option Value} {k' : Nat} (hm : MapF v' Tryd.prog 3 kI mb k' g) (hg : v.grownBy v' (some mb)) (hB : B ≤ mb) (ht : t < B) (h1 : c ≠ mb) (h2 : q ≠ mb) (h3 : p ≠ mb) : SI w3 q p t B c mb k' h l g v' :=
  ⟨s.bc.grown hg (by simpa using h1), s.bq.grown hg (by simpa using h2), Blk.grown s.hp hg (by simpa using h3),
    s.tp.move (hg.block t (by have := s.mp.lt; omega) (by simp; omega)) (fun b hb' => hg.block b (by have := s.mp.lt; have : b < B := hb'; omega) (by simp; have : b < B := hb'; omega)) (fun _ h => h), hm, s.kp.grown hg (fun k hk => .inl (by simpa using hk.symm))⟩
end
section
attribute [local irreducible] cnt wh kap MapF cntF
set_option maxRecDepth 100000 in
set_option maxHeartbeats 8000000 in
theorem single_any (p t B : Nat) (h : Hd) (hh : h.ok) (hlf : h.left ≤ 64) (l : List Cpu) (hl : l.length ≤ 64) (hin : ∀ n, inS h.free n = true → n < l.length) (w : World) (hTB : TabAt 2 Lib.deBruijn64tab w) (hB : B ≤ w.heap.size) (ht : t < B) (hT : TopoAt w (· < B) t l) (hp : p < w.heap.size) (hpB : B ≤ p) (hb : HandAt w p t h) :
    Calls Tryd.prog 45 #[.pointer (some ⟨p, 0, none⟩)] w (fun e w' => e = .returned (.tuple #[]) ∧ HandAt w' p t (singleP l h) ∧ Kept (fun k => k = p) w w') := by
  have hok := hh
  obtain ⟨fr, tn, lf⟩ := h
  obtain ⟨ok1, ok2⟩ := hh
  dsimp only at ok1 ok2 hlf hin
  have hbc := Blk.cells hb
  have b1 : Below w.heap.size w (w.alloc (.cells #[.pointer (some ⟨p, 0, none⟩)] 64)) := (Below.refl _ _).alloc (Nat.le_refl _) _
  have kq := Blk.new w 64 #[.pointer (some ⟨p, 0, none⟩)]
  have kp : HandAt (w.alloc (.cells #[.pointer (some ⟨p, 0, none⟩)] 64)) p t ⟨fr, tn, lf⟩ := Blk.alloc hb _
  have HL := Lib.hid (ListB_any fr ok1 _ (TabAt.below hTB b1))
  have HTP := Lib.hid (hT.below (b1.mono hB) ht)
  have HIN := Lib.hid hin
  have HOK := Lib.hid hok
  clear hTB hT hin hok hb
  go_enter Tryd.func45, Tryd.ntmps45
  go_wp2_with fail
  refine HL.out.mono ?_
  intro e w2 hP
  have hP2 : RetL (listF fr 64) (w.alloc (.cells #[.pointer (some ⟨p, 0, none⟩)] 64)) e w2 := hP
  obtain ⟨A2, c2, rfl, ho2, hb2⟩ := hP2
  have hz1 : (w.alloc (.cells #[.pointer (some ⟨p, 0, none⟩)] 64)).heap.size = w.heap.size + 1 := by simp
  have b2 := b1.trans (hb2.mono b1.size)
  have kq2 := kq.below hb2 kq.lt
  have kp2 : HandAt w2 p t ⟨fr, tn, lf⟩ := Blk.below kp hb2 (Blk.lt kp)
  have tp2 := HTP.out.below (hb2.mono (by rw [hz1]; omega)) ht
  have hz2 : w.heap.size + 1 ≤ w2.heap.size := by rw [← hz1]; exact hb2.size
  have hmm := @run_makeMap Tryd.prog
  obtain ⟨mb, hmb⟩ : ∃ mb, mb = w2.heap.size := ⟨_, rfl⟩
  have hS : SI ((w2.alloc (.map #[] 0)).alloc (.cells #[.map (some mb)] 95)) w.heap.size p t B (mb + 1) mb 0 ⟨fr, tn, lf⟩ l (cntF l fr 0) ((w2.alloc (.map #[] 0)).alloc (.cells #[.map (some mb)] 95)) := by
    subst hmb
    have kn := Blk.new (w2.alloc (.map #[] 0)) 95 #[.map (some w2.heap.size)]
    exact ⟨by simpa using kn, (kq2.alloc _).alloc _, Blk.alloc (Blk.alloc kp2 _) _, tp2.below (((Below.refl _ _).alloc (by omega) _).alloc (by simp; omega) _) ht, ((MapF.made w2 Tryd.prog 3 kI).alloc _).congr (fun x => by rw [cntF_zero]), Kept.refl _ _⟩
  have b3 : Below w.heap.size w ((w2.alloc (.map #[] 0)).alloc (.cells #[.map (some mb)] 95)) := (b2.alloc b2.size _).alloc (by have := b2.size; simp; omega) _
  have ho3 : ((w2.alloc (.map #[] 0)).alloc (.cells #[.map (some mb)] 95)).ownsRow (w.heap.size + 1) 3 1 (.slice A2 (listF fr 64).length c2) (listF fr 64).length (natV (listF fr 64)) := by
    rw [hz1] at ho2
    exact (ho2.alloc _).alloc _
  have hmb2 : ∀ g, Value.ownBlock (.slice A2 (listF fr 64).length c2) = some g → g < mb := fun g hg => by
    rw [hmb]
    exact (ho2.lt g hg).2
  have HS := Lib.hid hS
  have HO := Lib.hid ho3
  have hmbq : w.heap.size + 1 ≤ mb := by rw [hmb]; exact hz2
  have hlc : (listF fr 64).length = cnt fr 64 := listF_cnt fr 64
  have hc64 := Pk.cnt_le64 fr
  have HMB := Lib.hid hmb2
  clear hP ho2 hS ho3 kq2 kp2 tp2 b2 hb2 kq kp HL HTP hmb2
  rw [hlc] at HO HMB ⊢
  go_wp2_with fail
  rw [← hmb]
  generalize (w2.alloc (.map #[] 0)).alloc (.cells #[.map (some mb)] 95) = w3 at *
  clear hlc hmb hmm hbc hz1 hz2
  have HIL := Lib.hid (ints_len fr)
  have hnn : (Pk.ints fr).length = cnt fr 64 := ints_len fr
  have HCE : Hid (∀ k (hk : k < cnt fr 64), ∃ g, A2 = some ⟨g, 0, none⟩ ∧ g < mb ∧ w3.cell? ⟨g, k, none⟩ = some (.int .i64 ((Pk.ints fr)[k]'(by omega))) ∧ ∃ m : Nat, (Pk.ints fr)[k]'(by omega) = m ∧ m < l.length) := Lib.hid (by
    intro k hk
    obtain ⟨A, c, e, q1, q2, q3⟩ := own_form HO.out
    simp only [Value.slice.injEq, true_and] at e
    obtain ⟨rfl, rfl⟩ := e
    obtain ⟨g, rfl, hg, _⟩ := q3 (by omega)
    have hcell := HO.out.cellAt k (by omega)
    refine ⟨g, rfl, HMB.out g rfl, ?_, ?_⟩
    · rw [hcell]
      have hk2 : k < (listF fr 64).length := by rw [listF_cnt]; exact hk
      simp [natV, Pk.ints, hk2]
    · obtain ⟨m, hm, _, hm2⟩ := ints_mem.1 (List.getElem_mem (l := Pk.ints fr) (n := k) (by omega))
      exact ⟨m, hm, HIN.out m hm2⟩)
  have hbl : Hid (B ≤ mb ∧ t < B ∧ w.heap.size ≠ mb ∧ p ≠ mb ∧ mb + 1 ≠ mb) := Lib.hid ⟨by omega, ht, by omega, by omega, by omega⟩
  have hmb3 := HS.out.mp.lt
  go_loopw [18] (fun i wr => ∃ k : Nat, i = .int .i64 k ∧ k ≤ cnt fr 64 ∧ Hid (SI w3 w.heap.size p t B (mb + 1) mb k ⟨fr, tn, lf⟩ l (cntF l fr k) wr)) (fun i _ => cnt fr 64 - (intOf i).toNat)
  case atStart => exact ⟨0, rfl, by omega, HS⟩
  case round =>
    clear HS
    obtain ⟨k, rfl, hk, HS⟩ := hrel
    by_cases hlt : k < cnt fr 64
    · obtain ⟨g, rfl, hg, hcell, m, hm, hml⟩ := HCE.out k hlt
      have hz3 := HS.out.kp.size
      have c1 : wr.cell? ⟨g, k, none⟩ = some (.int .i64 (m : Int)) := by
        rw [← hm, ← hcell]
        exact cell_heap (HS.out.kp.block g (by omega) (by omega))
      have HF1 : Hid (cntF l fr (k + 1) (m : Int) = some (.int .i64 (kap l fr m))) := Lib.hid (cntF_at l fr k (by omega) hm)
      have HF2 := Lib.hid (cntF_other l fr k (by omega) hm)
      clear hcell hm HCE HO HMB hnn
      go_wp2_with fail
      have HSD := Lib.hid HS.out.drew
      have hz3' : w3.heap.size ≤ wr.drew.heap.size := hz3
      clear hz3 HS c1
      obtain ⟨hl1, hl2, hl3, hl4, hl5⟩ := hbl.out
      have hI : Blk wr.drew (mb + 1) 95 #[.map (some mb)] ∧ Hid (SI w3 w.heap.size p t B (mb + 1) mb k ⟨fr, tn, lf⟩ l (cntF l fr k) wr.drew) := ⟨HSD.out.bc, HSD⟩
      refine Flo.region 5 [(0, true), (1, true), (2, true), (3, true), (4, false)] (fun v => Blk v (mb + 1) 95 #[.map (some mb)] ∧ Hid (SI w3 w.heap.size p t B (mb + 1) mb k ⟨fr, tn, lf⟩ l (cntF l fr k) v)) (by kernel_rfl) (by kernel_rfl) rfl hI ?_
      simp only [List.drop_succ_cons, List.drop_zero]
      iterate 4 (apply Flo.op rfl (hI := hI); (· intro v' hv' K hK; obtain ⟨k1, k2⟩ := hv'; have c1 := k1.cells; clear k1 k2; go_wp2_with fail; exact hK); (· rfl))
      refine Flo.seq rfl fun K hK => ?_
      have HOF := Lib.hid (of_any m p t w.heap.size B ⟨fr, tn, lf⟩ HOK.out l hl hml wr.drew (by omega) hl2 HSD.out.tp HSD.out.hp HSD.out.bq)
      dsimp only at HOF
      go_wp2_with fail
      refine HOF.out.mono ?_
      rintro e w4 ⟨rfl, hb4⟩
      have HS4 := Lib.hid (HSD.out.below hb4 (by omega) (by omega))
      clear HOF HSD hI hb4
      go_wp2_with fail
      refine hK _ _ ⟨HS4.out.bc, HS4⟩ ?_
      clear hK
      refine Flo.tail fun K hK => ?_
      have HKM : Hid (keyOf Tryd.prog 3 (.int .i64 (m : Int)) = some (kI m)) := Lib.hid (keyOf_int_mk Tryd.underlying3 (a := (m : Int)) (q := .i64) (WalkArith.wf_i64 (by omega)))
      go_wp2_with (at_mapUpdate; refine wpList_mapF_put _ rfl _ _ _ 95 rfl 3 3 keyI Tryd.underlying95 rfl HS4.out.mp (by unfold maxLen; omega) _ _ (m : Int) rfl rfl HKM.out (kI_key _) (kI_inj _) (cntF l fr (k + 1)) HF1.out HF2.out ?_; intro w5 hm5 hg5 hs5)
      go_roundw
      case rel => exact ⟨k + 1, by go_num, by omega, Lib.hid (HS4.out.put hm5 hg5 hl1 hl2 hl5 hl3 hl4)⟩
      case measure => simp [intOf]; omega
    · obtain rfl : k = cnt fr 64 := by omega
      have hkw := HS.out.kp
      have hKW : Kept (fun x => x = p) w wr := by
        have h1 : Kept (fun x => x = p) w w3 := Kept.of_below b3
        exact h1.then_ hkw (fun k hk hm => by omega)
      by_cases hn0 : cnt fr 64 = 0
      · have HR0 : Hid (singleP l ⟨fr, tn, lf⟩ = ⟨fr, tn, lf⟩) := Lib.hid (by
          unfold singleP
          dsimp only
          have hrl := row_len l fr
          rw [show (row l fr).take (min lf (row l fr).length) = [] from List.eq_nil_of_length_eq_zero (by rw [List.length_take]; omega)]
          rfl)
        have HP1 := Lib.hid HS.out.hp
        have kq1 := HS.out.bq
        have hqc := kq1.cells
        have hpc := Blk.cells HP1.out
        rw [hn0]
        clear HS HCE HO HMB hnn hkw kq1 hn0 hmb3
        have hmn : min (lf : Int) 0 = 0 := by omega
        go_wp2_with fail
        refine (Ps.sortStable_none A2 c2 _ wr).mono ?_
        rintro e w6 ⟨rfl, rfl⟩
        go_wp2_with fail
        refine wp_loop_rounds 1 ?_
        rw [rounds_succ]
        go_wp2_with fail
        go_end0
        exact ⟨rfl, by rw [HR0.out]; exact HP1.out, hKW⟩
      · obtain ⟨g, rfl, hg, hx1, hx2⟩ := HCE.out 0 (by omega)
        clear hx1 hx2
        obtain ⟨rest, hrow, hgw⟩ := irow_of (w := w3) (xs := listF fr 64) (by simpa [listF_cnt] using HO.out)
        have hrow2 : Ps.IRow wr g (Pk.ints fr) rest := (hkw.block g (by omega) (by omega)).trans hrow
        have HCI : Hid (Ps.CmpIs (kap l fr) 60 #[.pointer (some ⟨mb + 1, 0, none⟩)] g (Pk.ints fr) wr) := Lib.hid ⟨kap_bd l fr, enters_of Tryd.func60 (by kernel_rfl) rfl, fun W hW x hx y hy => by
          obtain ⟨a1, rfl, a2, _⟩ := ints_mem.1 hx
          obtain ⟨a3, rfl, a4, _⟩ := ints_mem.1 hy
          have e1 := cntF_all l fr hx
          have e2 := cntF_all l fr hy
          rw [hnn] at e1 e2
          have hmp := HS.out.mp.lt
          have hbcl := HS.out.bc.lt
          exact cmp_any _ _ _ _ (mb + 1) mb (cnt fr 64) _ W (HS.out.bc.kept hW (by omega)) (HS.out.mp.same (hW.block mb hmp (by omega))) e1 e2 (kap_bd l fr _) (kap_bd l fr _) (by omega) (by omega)⟩
        have hso := Ps.sortStable_any (kap l fr) 60 #[.pointer (some ⟨mb + 1, 0, none⟩)] (Pk.ints fr) rest g c2 (by omega) (ints_ris fr) wr HCI.out hrow2
        rw [hnn] at hso
        have HSO := Lib.hid hso
        have hmin : min lf (row l fr).length = min lf (cnt fr 64) := by rw [row_len]
        have HSP : Hid (singleP l ⟨fr, tn, lf⟩ = singles ⟨fr, tn, lf⟩ ((row l fr).take (min lf (cnt fr 64)))) := Lib.hid (by unfold singleP; dsimp only; rw [hmin])
        have HRL := Lib.hid (row_len l fr)
        have HRX := Lib.hid (row_lt l fr)
        have HU := Lib.hid (fun W h1 h2 => row_uniq l fr (W := W) h1 h2)
        obtain ⟨m, hm⟩ : ∃ m, m = min lf (cnt fr 64) := ⟨_, rfl⟩
        have hmi : min (lf : Int) (cnt fr 64 : Nat) = m := by omega
        have hm1 : m ≤ lf := by omega
        have hm2 : m ≤ cnt fr 64 := by omega
        rw [← hm] at HSP
        have kq1 := HS.out.bq
        have kp1 := HS.out.hp
        have hpl := Blk.lt kp1
        have hql := kq1.lt
        have hgl := hrow2.lt
        have hcap : cnt fr 64 ≤ c2 := by
          obtain ⟨A, c, e, q1, q2, q3⟩ := own_form HO.out
          simp only [Value.slice.injEq, true_and] at e
          obtain ⟨_, rfl⟩ := e
          exact q1
        clear hso hrow hrow2 hmin hm HCE HO HMB hnn hkw HCI HS hmb3
        generalize hnc : cnt fr 64 = n at *
        go_wp2_with fail
        refine HSO.out.mono ?_
        intro e w6 hM
        have hM2 : Ps.SortDone (kap l fr) g (Pk.ints fr) rest wr e w6 := hM
        obtain ⟨W, rfl, m1, m2, m3, m4⟩ := hM2
        obtain rfl := HU.out W m1 m2
        have M3 := Lib.hid m3
        have kq6 : Blk w6 w.heap.size 64 #[.pointer (some ⟨p, 0, none⟩)] := kq1.kept m4 (by omega)
        have kp6 : HandAt w6 p t ⟨fr, tn, lf⟩ := Blk.kept kp1 m4 (by omega)
        have HP6 := Lib.hid kp6
        have HQ6 := Lib.hid kq6
        have hqc := kq6.cells
        have hpc := Blk.cells kp6
        have hKW6 : Kept (fun x => x = p) w w6 := hKW.then_ m4 (fun k hk hm => by omega)
        have hz6 := m4.size
        clear hM m1 m2 m3 m4 HSO HU kq1 kp1 kq6 kp6 hKW
        go_wp2_with fail
        clear hqc hpc hmi
        obtain ⟨wo, rfl⟩ : ∃ wo : World, wo = w6 := ⟨_, rfl⟩
        go_loopw [41] (fun i wr => ∃ k : Nat, i = .int .i64 k ∧ k ≤ m ∧ Hid (HandAt wr p t (singles ⟨fr, tn, lf⟩ ((row l fr).take k))) ∧ Hid (Blk wr w.heap.size 64 #[.pointer (some ⟨p, 0, none⟩)]) ∧ Hid (Ps.IRow wr g (row l fr) rest) ∧ Kept (fun x => x = p) w wr) (fun i _ => m - (intOf i).toNat)
        case atStart => exact ⟨0, rfl, by omega, HP6, HQ6, M3, hKW6⟩
        case round =>
          clear HP6 HQ6 M3 hKW6
          obtain ⟨k, rfl, hk, HP, HQ, HR, hkp⟩ := hrel
          by_cases hlm : k < m
          · have hkr : k < (row l fr).length := by rw [HRL.out]; omega
            have c1 := HR.out.cell hkr
            obtain ⟨x0, x64⟩ := HRX.out _ (List.getElem_mem hkr)
            have HNX : Hid (singles ⟨fr, tn, lf⟩ ((row l fr).take (k + 1)) = tk (singles ⟨fr, tn, lf⟩ ((row l fr).take k)) (2 ^ ((row l fr)[k]).toNat)) := Lib.hid (by rw [List.take_succ_eq_append_getElem hkr, singles_snoc])
            have hlf : (singles ⟨fr, tn, lf⟩ ((row l fr).take k)).left = lf - k := by
              rw [singles_left (fun x hx => HRX.out x (List.mem_of_mem_take hx)), List.length_take]
              show lf - min k (row l fr).length = lf - k
              omega
            have hokk := singles_ok (l := (row l fr).take k) (fun x hx => (HRX.out x (List.mem_of_mem_take hx)).2) HOK.out
            obtain ⟨x, hx⟩ : ∃ x : Nat, ((row l fr)[k] : Int) = x := ⟨((row l fr)[k]).toNat, by omega⟩
            rw [hx] at c1 HNX
            rw [hx] at x64
            rw [Int.toNat_natCast] at HNX x64
            have hpw := pow_lt x64
            have hsh := shl64s x x64
            have HTK := Lib.hid (fun W hW => htake_any p t (2 ^ x) (singles ⟨fr, tn, lf⟩ ((row l fr).take k)) hokk hpw (by rw [pow_cnt x64, hlf]; omega) (by rw [hlf]; omega) W hW)
            generalize singles ⟨fr, tn, lf⟩ ((row l fr).take k) = hk1 at *
            generalize (2 : Nat) ^ x = s at *
            have hqc := HQ.out.cells
            clear hx hlf hokk hpw x0
            go_wp2_with fail
            have hI : Blk wr.drew w.heap.size 64 #[.pointer (some ⟨p, 0, none⟩)] := HQ.out.drew
            refine Flo.region 3 [(0, true), (1, true), (2, true)] (fun v => Blk v w.heap.size 64 #[.pointer (some ⟨p, 0, none⟩)]) (by kernel_rfl) (by kernel_rfl) rfl hI ?_
            simp only [List.drop_succ_cons, List.drop_zero]
            iterate 3 (apply Flo.op rfl (hI := hI); (· intro v' hv' K hK; have c1 := hv'.cells; clear hv'; go_wp2_with fail; exact hK); (· rfl))
            refine Flo.tail fun K hK => ?_
            go_wp2_with fail
            refine (HTK.out _ (Blk.drew HP.out)).mono ?_
            rintro e w7 ⟨rfl, hA, hkA⟩
            have HA := Lib.hid hA
            have kq7 : Blk w7 w.heap.size 64 #[.pointer (some ⟨p, 0, none⟩)] := hI.kept hkA (by omega)
            have HQ7 := Lib.hid kq7
            have hr7 : Ps.IRow w7 g (row l fr) rest := Blk.kept (Blk.drew HR.out) hkA (by omega)
            have HR7 := Lib.hid hr7
            have hkA2 := hkp.drew.trans hkA
            clear hA hkA HTK hI HQ HR HP kq7 hr7 hqc
            go_wp2_with fail
            go_roundw
            case rel => exact ⟨k + 1, by go_num, by omega, Lib.hid (by rw [HNX.out]; exact HA.out), HQ7, HR7, hkA2⟩
            case measure => simp [intOf]; omega
          · obtain rfl : k = m := by omega
            go_wp2_with fail
            go_end0
            exact ⟨rfl, by rw [HSP.out]; exact HP.out, hkp⟩
end
end Go.Proofs.YticmfflnenoplaaDoor
namespace Go.Proofs.YticmfflnenoplaaDoor
open Go.RowKit Go.Deep Go.ChangeShapes Go.Maps Pop Bi Tp Pk
theorem coreM_lt (l : List Cpu) (hl : l.length ≤ 64) (n : Int) : coreM l n < 18446744073709551616 := wh_lt64 _ l _ hl
theorem sockM_lt (l : List Cpu) (hl : l.length ≤ 64) (n : Int) : sockM l n < 18446744073709551616 := wh_lt64 _ l _ hl
theorem onM_lt (l : List Cpu) (hl : l.length ≤ 64) (p : Cpu → Bool) : onM l p < 18446744073709551616 := wh_lt64 _ l _ hl
/-- What is free is among the processors. -/
def InL (l : List Cpu) (fr : Nat) : Prop := ∀ n, inS fr n = true → n < l.length
theorem InL.sub {l : List Cpu} {a b : Nat} (h : InL l a) (hs : ∀ i, b.testBit i = true → a.testBit i = true) : InL l b := fun n hn => h n (by rw [bit_test] at hn ⊢; exact hs n hn)
theorem someP_ok {l : List Cpu} (hl : l.length ≤ 64) {h : Hd} (hh : h.ok) (frm : Nat) : (someP l h frm).ok ∧ (someP l h frm).left ≤ h.left ∧ ∀ i, (someP l h frm).free.testBit i = true → h.free.testBit i = true := by
  have h1 : Hd.ok { h with free := h.free &&& frm } := ⟨Nat.lt_of_le_of_lt Nat.and_le_left hh.1, hh.2⟩
  have h2 := wholeP_ok (g := fun n => sockM l n) (fun k => sockM_lt l hl k) h1 64
  have h3 := wholeP_ok (g := fun n => coreM l n) (fun k => coreM_lt l hl k) h2 64
  have h4 : (singleP l (wholeP (fun n => coreM l n) 64 (wholeP (fun n => sockM l n) 64 { h with free := h.free &&& frm }))).ok :=
    singles_ok (fun x hx => (row_lt l _ x (List.mem_of_mem_take hx)).2) h3
  refine ⟨⟨dif_lt _ hh.1, h4.2⟩, ?_, fun i hi => ?_⟩
  · show (singleP l _).left ≤ _
    unfold singleP
    rw [singles_left (fun x hx => row_lt l _ x (List.mem_of_mem_take hx))]
    have a1 := wholeP_left (g := fun n => coreM l n) (h := wholeP (fun n => sockM l n) 64 { h with free := h.free &&& frm }) 64
    have a2 := wholeP_left (g := fun n => sockM l n) (h := { h with free := h.free &&& frm }) 64
    have a3 : ({ h with free := h.free &&& frm } : Hd).left = h.left := rfl
    omega
  · have : (dif h.free (singleP l (wholeP (fun n => coreM l n) 64 (wholeP (fun n => sockM l n) 64 { h with free := h.free &&& frm }))).taken).testBit i = true := hi
    rw [dif_bit hh.1 h4.2] at this
    simp only [Bool.and_eq_true] at this
    exact this.1
theorem tab_kept {g p : Nat} {tab : List Nat} {w w' : World} (h : TabAt g tab w) (hk : Kept (fun x => x = p) w w') (hg : g ≠ p) : TabAt g tab w' := fun j hj => by
  have := h j hj
  rw [← this]
  exact cell_heap (hk.block g (World.block_lt_of_cell? w _ this) hg)
theorem topo_kept {w w' : World} {p t B : Nat} {l : List Cpu} (h : TopoAt w (· < B) t l) (hk : Kept (fun x => x = p) w w') (hB : B ≤ w.heap.size) (ht : t < B) (hp : B ≤ p) : TopoAt w' (· < B) t l :=
  h.move (hk.block t (by omega) (by omega)) (fun b hb => hk.block b (by have : b < B := hb; omega) (by have : b < B := hb; omega)) (fun _ h => h)
theorem sock_call (k : Int) (l : List Cpu) (hl : l.length ≤ 64) (B t : Nat) (V : World) (hB : B ≤ V.heap.size) (ht : t < B) (hT : TopoAt V (· < B) t l) : Calls Tryd.prog 43 (#[.pointer (some ⟨t, 0, none⟩)] ++ #[.int .i64 k]) V (RetU (sockM l k) V) :=
  Socket_any k l hl B t V hB ht hT
theorem core_call (k : Int) (l : List Cpu) (hl : l.length ≤ 64) (B t : Nat) (V : World) (hB : B ≤ V.heap.size) (ht : t < B) (hT : TopoAt V (· < B) t l) : Calls Tryd.prog 44 (#[.pointer (some ⟨t, 0, none⟩)] ++ #[.int .i64 k]) V (RetU (coreM l k) V) :=
  Core_any k l hl B t V hB ht hT
section
attribute [local irreducible] cnt wh kap wholeP singleP dif coreM sockM
set_option maxRecDepth 100000 in
set_option maxHeartbeats 8000000 in
theorem some_any (p t B frm : Nat) (h : Hd) (hh : h.ok) (hlf : h.left ≤ 64) (hfm : frm < 18446744073709551616) (l : List Cpu) (hl : l.length ≤ 64) (hin : InL l h.free) (w : World) (hTB : TabAt 2 Lib.deBruijn64tab w) (_hg : 2 < B) (hB : B ≤ w.heap.size) (ht : t < B) (hT : TopoAt w (· < B) t l) (hp : p < w.heap.size) (hpB : B ≤ p) (hb : HandAt w p t h) :
    Calls Tryd.prog 27 #[.pointer (some ⟨p, 0, none⟩), .int .u64 frm] w (fun e w' => e = .returned (.tuple #[]) ∧ HandAt w' p t (someP l h frm) ∧ Kept (fun k => k = p) w w') := by
  obtain ⟨fr, tn, lf⟩ := h
  have h1ok : Hd.ok ⟨fr &&& frm, tn, lf⟩ := ⟨Nat.lt_of_le_of_lt Nat.and_le_left hh.1, hh.2⟩
  have h2ok := wholeP_ok (g := fun n => sockM l n) (fun k => sockM_lt l hl k) h1ok 64
  have h3ok := wholeP_ok (g := fun n => coreM l n) (fun k => coreM_lt l hl k) h2ok 64
  have l2 := wholeP_left (g := fun n => sockM l n) (h := ⟨fr &&& frm, tn, lf⟩) 64
  have l3 := wholeP_left (g := fun n => coreM l n) (h := wholeP (fun n => sockM l n) 64 ⟨fr &&& frm, tn, lf⟩) 64
  have in3 : InL l (wholeP (fun n => coreM l n) 64 (wholeP (fun n => sockM l n) 64 ⟨fr &&& frm, tn, lf⟩)).free := InL.sub hin (fun i hi => by
    have a1 := wholeP_sub (g := fun n => coreM l n) (fun k => coreM_lt l hl k) h2ok 64 i hi
    have a2 := wholeP_sub (g := fun n => sockM l n) (fun k => sockM_lt l hl k) h1ok 64 i a1
    rw [Nat.testBit_and] at a2
    simp only [Bool.and_eq_true] at a2
    exact a2.1)
  have h4ok : (singleP l (wholeP (fun n => coreM l n) 64 (wholeP (fun n => sockM l n) 64 ⟨fr &&& frm, tn, lf⟩))).ok := by
    unfold singleP
    exact singles_ok (fun x hx => (row_lt l _ x (List.mem_of_mem_take hx)).2) h3ok
  have HSM : Hid (someP l ⟨fr, tn, lf⟩ frm = { singleP l (wholeP (fun n => coreM l n) 64 (wholeP (fun n => sockM l n) 64 ⟨fr &&& frm, tn, lf⟩)) with free := dif fr (singleP l (wholeP (fun n => coreM l n) 64 (wholeP (fun n => sockM l n) 64 ⟨fr &&& frm, tn, lf⟩))).taken }) := Lib.hid rfl
  have hand := u64_and_nat fr frm hh.1 hfm
  dsimp only at hlf l2 l3
  have hbc := Blk.cells hb
  have hbf := Blk.frozens hb
  have kb1 : HandAt (w.setCell ⟨p, 1, none⟩ (.int .u64 (fr &&& frm : Nat))) p t ⟨fr &&& frm, tn, lf⟩ := (Blk.set_ hb 1 _).cast (by simp)
  have hk1 : Kept (fun k => k = p) w (w.setCell ⟨p, 1, none⟩ (.int .u64 (fr &&& frm : Nat))) := (Kept.refl _ _).set1 _
  have HTB := Lib.hid hTB
  have HTP := Lib.hid hT
  have HW1 := Lib.hid (fun W (hW : Kept (fun k => k = p) w W) (hH : HandAt W p t ⟨fr &&& frm, tn, lf⟩) => whole_any p t _ h1ok hlf (fun n => sockM l n) (fun k => sockM_lt l hl k) 43 #[.pointer (some ⟨t, 0, none⟩)] W hH (enters_of Tryd.func43 (by kernel_rfl) rfl) (fun k V hk hV => by
    have hWV := hW.trans hV
    exact sock_call (k : Int) l hl B t V (Nat.le_trans hB hWV.size) ht (topo_kept hT hWV hB ht hpB)))
  have HW2 := Lib.hid (fun W (hW : Kept (fun k => k = p) w W) (hH : HandAt W p t (wholeP (fun n => sockM l n) 64 ⟨fr &&& frm, tn, lf⟩)) => whole_any p t _ h2ok (by omega) (fun n => coreM l n) (fun k => coreM_lt l hl k) 44 #[.pointer (some ⟨t, 0, none⟩)] W hH (enters_of Tryd.func44 (by kernel_rfl) rfl) (fun k V hk hV => by
    have hWV := hW.trans hV
    exact core_call (k : Int) l hl B t V (Nat.le_trans hB hWV.size) ht (topo_kept hT hWV hB ht hpB)))
  have HSG := Lib.hid (fun W (hW : Kept (fun k => k = p) w W) (hH : HandAt W p t (wholeP (fun n => coreM l n) 64 (wholeP (fun n => sockM l n) 64 ⟨fr &&& frm, tn, lf⟩))) => single_any p t B _ h3ok (by omega) l hl in3 W (tab_kept hTB hW (by omega)) (Nat.le_trans hB hW.size) ht (topo_kept hT hW hB ht hpB) (Nat.lt_of_lt_of_le hp hW.size) hpB hH)
  obtain ⟨ok1, ok2⟩ := hh
  dsimp only at ok1 ok2
  have hanot := u64_andNot_nat fr (singleP l (wholeP (fun n => coreM l n) 64 (wholeP (fun n => sockM l n) 64 ⟨fr &&& frm, tn, lf⟩))).taken ok1 h4ok.2
  have hdf : (fr &&& (18446744073709551615 - (singleP l (wholeP (fun n => coreM l n) 64 (wholeP (fun n => sockM l n) 64 ⟨fr &&& frm, tn, lf⟩))).taken) : Nat) = dif fr (singleP l (wholeP (fun n => coreM l n) 64 (wholeP (fun n => sockM l n) 64 ⟨fr &&& frm, tn, lf⟩))).taken := by unfold dif; rfl
  rw [hdf] at hanot
  clear hdf hT hTB hin in3 h1ok h2ok h3ok l2 l3 HTP HTB hb
  generalize singleP l (wholeP (fun n => coreM l n) 64 (wholeP (fun n => sockM l n) 64 ⟨fr &&& frm, tn, lf⟩)) = h4 at *
  generalize wholeP (fun n => coreM l n) 64 (wholeP (fun n => sockM l n) 64 ⟨fr &&& frm, tn, lf⟩) = h3 at *
  generalize wholeP (fun n => sockM l n) 64 ⟨fr &&& frm, tn, lf⟩ = h2 at *
  generalize (fr &&& frm : Nat) = fa at *
  go_enter Tryd.func27, Tryd.ntmps27
  go_upto_region 2 with fail
  generalize w.setCell ⟨p, 1, none⟩ (.int .u64 (fa : Int)) = w1 at *
  clear hbc hbf
  have hbc := Blk.cells kb1
  go_wp2_with fail
  refine (HW1.out w1 hk1 kb1).mono ?_
  rintro e w2 ⟨rfl, k2, hk2⟩
  have hk2' := hk1.trans hk2
  clear hbc kb1 hk1 hk2 HW1
  have hbc := Blk.cells k2
  have K2 := Lib.hid k2
  clear k2
  obtain ⟨f2, t2, lf2⟩ := h2
  dsimp only at hbc
  go_wp2_with fail
  refine (HW2.out w2 hk2' K2.out).mono ?_
  rintro e w3 ⟨rfl, k3, hk3⟩
  have hk3' := hk2'.trans hk3
  have K3 := Lib.hid k3
  clear hbc k3 hk3 hk2' K2 HW2
  go_wp2_with fail
  refine (HSG.out w3 hk3' K3.out).mono ?_
  rintro e w4 ⟨rfl, k4, hk4⟩
  have hk4' := hk3'.trans hk4
  obtain ⟨f4, t4, lf4⟩ := h4
  have K4 := Lib.hid k4
  have hbc := Blk.cells k4
  have hbf := Blk.frozens k4
  clear k4 hk4 hk3' K3 HSG h4ok
  dsimp only at hbc hanot
  have HD := Lib.hid (fun (_ : True) => (Blk.set_ K4.out 1 (.int .u64 (dif fr t4 : Nat))))
  generalize hdd : dif fr t4 = d at *
  go_wp2_with fail
  go_end0
  refine ⟨rfl, ?_, hk4'.set1 _⟩
  rw [HSM.out]
  refine (HD.out trivial).cast ?_
  simp
end
end Go.Proofs.YticmfflnenoplaaDoor
namespace Go.Proofs.YticmfflnenoplaaDoor
open Go.RowKit Go.Deep Go.ChangeShapes Go.Maps Pop Bi Tp Pk
theorem inL_of {l : List Cpu} {fr : Nat} (h : insF fr (onM l fun _ => true) = true) : InL l fr := fun n hn => by
  unfold insF at h
  rw [decide_eq_true_eq] at h
  have h2 := congrArg (fun x => x.testBit n) h
  simp only [Nat.testBit_and] at h2
  rw [bit_test] at hn
  rw [hn, onM, wh_bit] at h2
  simp at h2
  exact h2
/-- What Take tells. -/
def TakeR (r : Nat × Int) (w : World) (e : Ending) (w' : World) : Prop := e = .returned (.tuple #[.int .u64 r.1, errV r.2]) ∧ Below w.heap.size w w'
theorem TakeR.bad {r : Nat × Int} {f : Int} {w w' : World} (h : r = (0, f)) (hf : f ≠ 0) (hb : Below w.heap.size w w') : TakeR r w (.returned (.tuple #[.int .u64 0, .iface 23 (.int .i64 f)])) w' := by
  subst h
  exact ⟨by rw [errV_pos f hf]; rfl, hb⟩
theorem TakeR.good {r : Nat × Int} {s : Nat} {w w' : World} (h : r = (s, 0)) (hb : Below w.heap.size w w') : TakeR r w (.returned (.tuple #[.int .u64 s, .nilIface])) w' := by
  subst h
  exact ⟨rfl, hb⟩
theorem take_bad {l : List Cpu} {fr : Nat} {many : Int} {on : Nat} (h : many < 0 ∨ 64 < many ∨ insF fr (onM l fun _ => true) = false) : takeP l fr many on = (0, 1) := by rw [takeP, if_pos h]
theorem take_few {l : List Cpu} {fr : Nat} {many : Int} {on : Nat} (h0 : ¬ (many < 0 ∨ 64 < many ∨ insF fr (onM l fun _ => true) = false)) (h : (cnt fr 64 : Int) < many) : takeP l fr many on = (0, 8) := by rw [takeP, if_neg h0, if_pos h]
theorem take_yes {l : List Cpu} {fr : Nat} {many : Int} {on : Nat} (h0 : ¬ (many < 0 ∨ 64 < many ∨ insF fr (onM l fun _ => true) = false)) (h : ¬ (cnt fr 64 : Int) < many) : takeP l fr many on = ((someP l (someP l ⟨fr, 0, many.toNat⟩ on) (onM l fun _ => true)).taken, 0) := by rw [takeP, if_neg h0, if_neg h]
section
attribute [local irreducible] cnt wh someP insF takeP onM
set_option maxRecDepth 100000 in
set_option maxHeartbeats 8000000 in
theorem Take_any (t B fr m : Nat) (many : Int) (hfr : fr < 18446744073709551616) (hm : m < 256) (l : List Cpu) (hl : l.length ≤ 64) (hn : ∀ c, c ∈ l → 0 ≤ c.node ∧ c.node ≤ 3) (w : World) (hTB : TabAt 2 Lib.deBruijn64tab w) (hg : 2 < B) (hB : B ≤ w.heap.size) (ht : t < B) (hT : TopoAt w (· < B) t l) :
    Calls Tryd.prog 12 #[.pointer (some ⟨t, 0, none⟩), .int .u64 fr, .int .i64 many, .int .u8 m] w (TakeR (takeP l fr many (onM l fun c => onB m c)) w) := by
  have HTT := Lib.hid hT
  have HTB := Lib.hid hTB
  have HAL : Hid (∀ W, Below w.heap.size w W → Calls Tryd.prog 25 #[.pointer (some ⟨t, 0, none⟩)] W (RetU (onM l fun _ => true) W)) := Lib.hid (fun W hW => by
    have := All_any l hl B t W (Nat.le_trans hB hW.size) (hT.below (hW.mono hB) ht)
    unfold onM
    exact this)
  have HON : Hid (∀ W, Below w.heap.size w W → Calls Tryd.prog 28 #[.pointer (some ⟨t, 0, none⟩), .int .u8 m] W (RetU (onM l fun c => onB m c) W)) := Lib.hid (fun W hW => by
    have := On_any m hm l hl B t W (Nat.le_trans hB hW.size) ht (hT.below (hW.mono hB) ht) hn
    unfold onM
    exact this)
  have hal := onM_lt l hl (fun _ => true)
  have hon := onM_lt l hl (fun c => onB m c)
  have HIN := Lib.hid (fun W => Inside_any fr _ hfr hal W)
  have HCN := Lib.hid (fun W => Count_any fr hfr W)
  have HBAD := Lib.hid (fun h => take_bad (l := l) (fr := fr) (many := many) (on := onM l fun c => onB m c) h)
  have HFEW := Lib.hid (fun h0 h => take_few (l := l) (fr := fr) (many := many) (on := onM l fun c => onB m c) h0 h)
  have HYES := Lib.hid (fun h0 h => take_yes (l := l) (fr := fr) (many := many) (on := onM l fun c => onB m c) h0 h)
  have HIL := Lib.hid (fun h => inL_of (l := l) (fr := fr) h)
  have hc64 := Pk.cnt_le64 fr
  clear hT hTB hn
  generalize takeP l fr many (onM l fun c => onB m c) = R at *
  generalize (onM l fun c => onB m c) = on at *
  generalize (onM l fun _ => true) = al at *
  by_cases h1 : many < 0
  · have hr := Lib.hid (HBAD.out (.inl h1))
    go_enter Tryd.func12, Tryd.ntmps12
    go_wp2_with fail
    go_ret2
    exact TakeR.bad hr.out (by decide) (Below.refl _ _)
  · by_cases h2 : 64 < many
    · have hr := Lib.hid (HBAD.out (.inr (.inl h2)))
      go_enter Tryd.func12, Tryd.ntmps12
      go_wp2_with fail
      go_ret2
      exact TakeR.bad hr.out (by decide) (Below.refl _ _)
    · have h3 : 0 ≤ many := by omega
      have h4 : many ≤ 64 := by omega
      clear h1 h2
      cases hin : insF fr al
      · have hr := Lib.hid (HBAD.out (.inr (.inr hin)))
        rw [hin] at HIN
        clear hin HBAD HFEW HYES HIL
        go_enter Tryd.func12, Tryd.ntmps12
        go_wp2_with fail
        refine (HAL.out w (Below.refl _ _)).mono ?_
        rintro e w1 ⟨rfl, hb1⟩
        go_wp2_with fail
        refine (HIN.out w1).mono ?_
        rintro e w2 ⟨rfl, rfl⟩
        go_wp2_with fail
        go_ret2
        exact TakeR.bad hr.out (by decide) hb1
      · have h0 : ¬ (many < 0 ∨ 64 < many ∨ insF fr al = false) := by rw [hin]; simp; omega
        have HFW := Lib.hid (HFEW.out h0)
        have HYS := Lib.hid (HYES.out h0)
        have HIL2 := Lib.hid (HIL.out hin)
        rw [hin] at HIN
        clear hin HBAD HFEW HYES HIL h0
        by_cases hfew : (cnt fr 64 : Int) < many
        · have hr := Lib.hid (HFW.out hfew)
          clear HFW HYS
          generalize cnt fr 64 = c at *
          go_enter Tryd.func12, Tryd.ntmps12
          go_wp2_with fail
          refine (HAL.out w (Below.refl _ _)).mono ?_
          rintro e w1 ⟨rfl, hb1⟩
          go_wp2_with fail
          refine (HIN.out w1).mono ?_
          rintro e w2 ⟨rfl, rfl⟩
          go_wp2_with fail
          refine (HCN.out w1).mono ?_
          rintro e w2 ⟨rfl, rfl⟩
          go_wp2_with fail
          go_ret2
          exact TakeR.bad hr.out (by decide) hb1
        · have hr := Lib.hid (HYS.out hfew)
          obtain ⟨n, rfl⟩ : ∃ n : Nat, many = n := ⟨many.toNat, by omega⟩
          rw [Int.toNat_natCast] at hr
          have hle : n ≤ cnt fr 64 := by omega
          have hok0 : Hd.ok ⟨fr, 0, n⟩ := ⟨hfr, by show 0 < 18446744073709551616; decide⟩
          obtain ⟨s1ok, s1l, s1f⟩ := someP_ok hl hok0 on
          have HSO1 := Lib.hid (fun W p hW hp hpB hH => some_any p t B on ⟨fr, 0, n⟩ hok0 (by dsimp only; omega) hon l hl HIL2.out W (TabAt.below HTB.out hW) hg (Nat.le_trans hB hW.size) ht (HTT.out.below (hW.mono hB) ht) hp hpB hH)
          have HSO2 := Lib.hid (fun W p hW hp hpB hH => some_any p t B al (someP l ⟨fr, 0, n⟩ on) s1ok (by dsimp only at s1l; omega) hal l hl (InL.sub HIL2.out s1f) W (TabAt.below HTB.out hW) hg (Nat.le_trans hB hW.size) ht (HTT.out.below (hW.mono hB) ht) hp hpB hH)
          clear HFW HYS hfew HIL2 HTB HTT hok0 s1ok s1l s1f
          generalize cnt fr 64 = c at *
          generalize someP l (someP l ⟨fr, 0, n⟩ on) al = R2 at *
          generalize someP l ⟨fr, 0, n⟩ on = R1 at *
          go_enter Tryd.func12, Tryd.ntmps12
          go_wp2_with fail
          refine (HAL.out w (Below.refl _ _)).mono ?_
          rintro e w1 ⟨rfl, hb1⟩
          go_wp2_with fail
          refine (HIN.out w1).mono ?_
          rintro e w2 ⟨rfl, rfl⟩
          go_wp2_with fail
          refine (HCN.out w1).mono ?_
          rintro e w2 ⟨rfl, rfl⟩
          have hz1 := hb1.size
          have bal := hb1.alloc hz1 (.cells #[.pointer (some ⟨t, 0, none⟩), .int .u64 fr, .int .u64 0, .int .i64 n] 66)
          have kp : HandAt (w1.alloc (.cells #[.pointer (some ⟨t, 0, none⟩), .int .u64 fr, .int .u64 0, .int .i64 n] 66)) w1.heap.size t ⟨fr, 0, n⟩ := Blk.new w1 66 #[.pointer (some ⟨t, 0, none⟩), .int .u64 fr, .int .u64 0, .int .i64 n]
          go_wp2_with fail
          have hpl := Blk.lt kp
          have hpB : B ≤ w1.heap.size := by omega
          have hpw : w.heap.size ≤ w1.heap.size := hz1
          generalize w1.alloc (.cells #[.pointer (some ⟨t, 0, none⟩), .int .u64 fr, .int .u64 0, .int .i64 n] 66) = w2 at *
          generalize w1.heap.size = p at *
          have KP := Lib.hid kp
          clear kp hb1 hz1
          refine (HON.out _ bal).mono ?_
          rintro e w3 ⟨rfl, hb3⟩
          have bal3 := bal.trans (hb3.mono bal.size)
          have kp3 : HandAt w3 p t ⟨fr, 0, n⟩ := Blk.below KP.out hb3 hpl
          have KP3 := Lib.hid kp3
          have hpl3 := Blk.lt kp3
          clear kp3 KP hb3 bal hpl
          go_wp2_with fail
          refine (HSO1.out w3 p bal3 hpl3 hpB KP3.out).mono ?_
          rintro e w4 ⟨rfl, k4, hk4⟩
          have bal4 : Below w.heap.size w w4 := bal3.trans (hk4.below bal3.size (fun k hk hkp => by omega))
          have K4 := Lib.hid k4
          have hpl4 := Blk.lt k4
          clear k4 hk4 KP3 bal3 HSO1 hpl3
          go_wp2_with fail
          refine (HAL.out _ bal4).mono ?_
          rintro e w5 ⟨rfl, hb5⟩
          have bal5 := bal4.trans (hb5.mono bal4.size)
          have k5 : HandAt w5 p t R1 := Blk.below K4.out hb5 hpl4
          have K5 := Lib.hid k5
          have hpl5 := Blk.lt k5
          clear k5 K4 hb5 bal4 hpl4
          go_wp2_with fail
          refine (HSO2.out w5 p bal5 hpl5 hpB K5.out).mono ?_
          rintro e w6 ⟨rfl, k6, hk6⟩
          have bal6 : Below w.heap.size w w6 := bal5.trans (hk6.below bal5.size (fun k hk hkp => by omega))
          obtain ⟨f6, t6, l6⟩ := R2
          have hpc := Blk.cells k6
          dsimp only at hpc hr
          clear k6 hk6 K5 bal5 HSO2
          go_wp2_with fail
          go_ret2
          exact TakeR.good hr.out bal6
end
end Go.Proofs.YticmfflnenoplaaDoor
namespace Go.Proofs.YticmfflnenoplaaDoor
open Go.RowKit Tp
def RetW (v : Value) (w : World) (e : Ending) (w' : World) : Prop := e = .returned v ∧ w = w'
section
attribute [local irreducible] wh
set_option maxHeartbeats 1000000 in
theorem RCore_any (n : Int) (l : List Cpu) (hl : l.length ≤ 64) (v : Value) (B : Nat) (w : World) (hR : RS w (· < B) 3 RCpu [v] l) :
    Calls Tryd.prog 49 #[v, .int .i64 n] w (RetW (.int .u64 (wh (fun c => c.core == n) l l.length)) w) := by
  obtain ⟨A, c, e, hc1, hc2, hA⟩ := hR.form
  obtain rfl : v = _ := by simpa using e
  unfold maxLen at hc2
  have HA := Lib.hid hA
  have HR := Lib.hid hR
  clear hA hR e
  go_enter Tryd.func49, Tryd.ntmps49
  go_upto_region 3 with fail
  go_loop [5, 6] (fun s i => ∃ k : Nat, i = .int .i64 k ∧ k ≤ l.length ∧ s = .int .u64 (wh (fun c => c.core == n) l k)) (fun _ i => l.length - (intOf i).toNat)
  case atStart => exact ⟨0, rfl, by omega, by rw [wh_zero]; rfl⟩
  case round =>
    obtain ⟨k, rfl, hk, rfl⟩ := hrel
    by_cases hlt : k < l.length
    · obtain ⟨b, off, rfl, hb⟩ := HA.out k hlt
      obtain ⟨_, cs', q1, q2, q3, q4⟩ := HR.out.at_ hlt
      have r0 := q2 0 _ (by rw [q3]; rfl)
      rw [Nat.add_zero] at r0
      have hnx := Lib.hid (wh_next (fun c => c.core == n) l k hlt)
      have hw1 := wh_lt64 (fun c => c.core == n) l k (by omega)
      have HSH := Lib.hid (shl64 k (by omega))
      have HOR := Lib.hid (u64_or_nat (wh (fun c => c.core == n) l k) (2 ^ k) hw1 (by have := Nat.pow_lt_pow_right (a := 2) (by omega) (show k < 64 by omega); simpa using this))
      generalize l[k].core = x at *
      generalize wh (fun c => c.core == n) l k = a at *
      clear q1 q2 q3 q4
      by_cases he : x = n
      · have hb1 : (x == n) = true := by simpa using he
        have HB := Lib.hid hb1
        clear he
        go_wp2_with fail
        go_round
        case rel => exact ⟨k + 1, by go_num, by omega, by rw [hnx.out, HB.out, HSH.out, HOR.out]; rfl⟩
        case measure => simp [intOf]; omega
      · have hb1 : (x == n) = false := by simpa using he
        have HB := Lib.hid hb1
        clear he
        go_wp2_with fail
        go_round
        case rel => exact ⟨k + 1, by go_num, by omega, by rw [hnx.out, HB.out]; rfl⟩
        case measure => simp [intOf]; omega
    · obtain rfl : k = l.length := by omega
      go_wp2_with fail
      go_ret
      exact ⟨rfl, rfl⟩

set_option maxHeartbeats 1000000 in
theorem RSocket_any (n : Int) (l : List Cpu) (hl : l.length ≤ 64) (v : Value) (B : Nat) (w : World) (hR : RS w (· < B) 3 RCpu [v] l) :
    Calls Tryd.prog 48 #[v, .int .i64 n] w (RetW (.int .u64 (wh (fun c => c.socket == n) l l.length)) w) := by
  obtain ⟨A, c, e, hc1, hc2, hA⟩ := hR.form
  obtain rfl : v = _ := by simpa using e
  unfold maxLen at hc2
  have HA := Lib.hid hA
  have HR := Lib.hid hR
  clear hA hR e
  go_enter Tryd.func48, Tryd.ntmps48
  go_upto_region 3 with fail
  go_loop [5, 6] (fun s i => ∃ k : Nat, i = .int .i64 k ∧ k ≤ l.length ∧ s = .int .u64 (wh (fun c => c.socket == n) l k)) (fun _ i => l.length - (intOf i).toNat)
  case atStart => exact ⟨0, rfl, by omega, by rw [wh_zero]; rfl⟩
  case round =>
    obtain ⟨k, rfl, hk, rfl⟩ := hrel
    by_cases hlt : k < l.length
    · obtain ⟨b, off, rfl, hb⟩ := HA.out k hlt
      obtain ⟨_, cs', q1, q2, q3, q4⟩ := HR.out.at_ hlt
      have r0 := q2 1 _ (by rw [q3]; rfl)
      skip
      have hnx := Lib.hid (wh_next (fun c => c.socket == n) l k hlt)
      have hw1 := wh_lt64 (fun c => c.socket == n) l k (by omega)
      have HSH := Lib.hid (shl64 k (by omega))
      have HOR := Lib.hid (u64_or_nat (wh (fun c => c.socket == n) l k) (2 ^ k) hw1 (by have := Nat.pow_lt_pow_right (a := 2) (by omega) (show k < 64 by omega); simpa using this))
      generalize l[k].socket = x at *
      generalize wh (fun c => c.socket == n) l k = a at *
      clear q1 q2 q3 q4
      by_cases he : x = n
      · have hb1 : (x == n) = true := by simpa using he
        have HB := Lib.hid hb1
        clear he
        go_wp2_with fail
        go_round
        case rel => exact ⟨k + 1, by go_num, by omega, by rw [hnx.out, HB.out, HSH.out, HOR.out]; rfl⟩
        case measure => simp [intOf]; omega
      · have hb1 : (x == n) = false := by simpa using he
        have HB := Lib.hid hb1
        clear he
        go_wp2_with fail
        go_round
        case rel => exact ⟨k + 1, by go_num, by omega, by rw [hnx.out, HB.out]; rfl⟩
        case measure => simp [intOf]; omega
    · obtain rfl : k = l.length := by omega
      go_wp2_with fail
      go_ret
      exact ⟨rfl, rfl⟩

set_option maxHeartbeats 1000000 in
theorem ROn_any (m : Nat) (hm : m < 256) (l : List Cpu) (hl : l.length ≤ 64) (v : Value) (B : Nat) (w : World) (hR : RS w (· < B) 3 RCpu [v] l) (hnd : ∀ c, c ∈ l → 0 ≤ c.node ∧ c.node ≤ 3) :
    Calls Tryd.prog 29 #[v, .int .u8 m] w (RetW (.int .u64 (wh (fun c => onB m c) l l.length)) w) := by
  obtain ⟨A, c, e, hc1, hc2, hA⟩ := hR.form
  obtain rfl : v = _ := by simpa using e
  unfold maxLen at hc2
  have HA := Lib.hid hA
  have HR := Lib.hid hR
  have HD := Lib.hid hnd
  clear hA hR e hnd
  go_enter Tryd.func29, Tryd.ntmps29
  go_upto_region 3 with fail
  go_loop [5, 6] (fun s i => ∃ k : Nat, i = .int .i64 k ∧ k ≤ l.length ∧ s = .int .u64 (wh (fun c => onB m c) l k)) (fun _ i => l.length - (intOf i).toNat)
  case atStart => exact ⟨0, rfl, by omega, by rw [wh_zero]; rfl⟩
  case round =>
    obtain ⟨k, rfl, hk, rfl⟩ := hrel
    by_cases hlt : k < l.length
    · obtain ⟨b, off, rfl, hb⟩ := HA.out k hlt
      obtain ⟨_, cs', q1, q2, q3, q4⟩ := HR.out.at_ hlt
      have r0 := q2 2 _ (by rw [q3]; rfl)
      have hnx := Lib.hid (wh_next (fun c => onB m c) l k hlt)
      have hw1 := wh_lt64 (fun c => onB m c) l k (by omega)
      have hd := HD.out _ (List.getElem_mem hlt)
      have HSH := Lib.hid (shl64 k (by omega))
      have HOR := Lib.hid (u64_or_nat (wh (fun c => onB m c) l k) (2 ^ k) hw1 (by have := Nat.pow_lt_pow_right (a := 2) (by omega) (show k < 64 by omega); simpa using this))
      have hob := Lib.hid (show onB m l[k] = (Pop.bit m l[k].node.toNat == 1) from rfl)
      generalize wh (fun c => onB m c) l k = a at *
      generalize l[k] = x at *
      obtain ⟨x0, x1, x2⟩ := x
      dsimp only at r0 hd
      obtain ⟨q, rfl⟩ : ∃ q : Nat, x2 = (q : Int) := ⟨x2.toNat, by omega⟩
      have hbq := u8_bitp m q hm
      have h01 := bit_01 m q
      clear q1 q2 q3 q4
      rcases (show Pop.bit m q = 0 ∨ Pop.bit m q = 1 by omega) with hz | hz
      · rw [hz] at hbq
        have HB := Lib.hid (show onB m ⟨x0, x1, q⟩ = false by rw [hob.out]; simp [hz])
        clear hz h01
        go_wp2_with fail
        go_round
        case rel => exact ⟨k + 1, by go_num, by omega, by rw [hnx.out, HB.out]; rfl⟩
        case measure => simp [intOf]; omega
      · rw [hz] at hbq
        have HB := Lib.hid (show onB m ⟨x0, x1, q⟩ = true by rw [hob.out]; simp [hz])
        clear hz h01
        go_wp2_with fail
        go_round
        case rel => exact ⟨k + 1, by go_num, by omega, by rw [hnx.out, HB.out, HSH.out, HOR.out]; rfl⟩
        case measure => simp [intOf]; omega
    · obtain rfl : k = l.length := by omega
      go_wp2_with fail
      go_ret
      exact ⟨rfl, rfl⟩
end
section
attribute [local irreducible] nods
end
theorem u64_bit (m k : Nat) (hm : m < 18446744073709551616) : bits .and .u64 ((m : Int) / 2 ^ k) 1 = ((Pop.bit m k : Nat) : Int) := by
  have h1 : ((m : Int) / 2 ^ k) = ((m / 2 ^ k : Nat) : Int) := by simp
  have h2 : m / 2 ^ k < 18446744073709551616 := Nat.lt_of_le_of_lt (Nat.div_le_self _ _) hm
  rw [h1, show (1 : Int) = ((1 : Nat) : Int) from rfl, u64_and_nat _ _ h2 (by omega), nat_mask1]
  rfl
/-- The counts on nodes of the first k. -/
def cntA (l : List Cpu) (s k : Nat) : Array Value := #[.int .i64 (cntOn l s 0 k), .int .i64 (cntOn l s 1 k), .int .i64 (cntOn l s 2 k), .int .i64 (cntOn l s 3 k)]
theorem cntA_zero (l : List Cpu) (s : Nat) : cntA l s 0 = #[.int .i64 0, .int .i64 0, .int .i64 0, .int .i64 0] := rfl
theorem cntA_at (l : List Cpu) (s k q : Nat) (hq : q < 4) : (cntA l s k)[q]? = some (.int .i64 (cntOn l s q k)) := by
  rcases (show q = 0 ∨ q = 1 ∨ q = 2 ∨ q = 3 by omega) with rfl | rfl | rfl | rfl <;> rfl
theorem cntA_off (l : List Cpu) (s k : Nat) (h : k < l.length) (hb : Pop.bit s k = 0) : cntA l s (k + 1) = cntA l s k := by
  have h0 : s.testBit k = false := by
    have := bit_of s k
    rw [hb] at this
    cases ht : s.testBit k
    · rfl
    · rw [ht] at this; simp at this
  unfold cntA
  simp only [cntOn_next l s _ k h, h0, Bool.false_and, Bool.false_eq_true, if_false, Nat.add_zero]
theorem cntA_on (l : List Cpu) (s k q : Nat) (h : k < l.length) (hb : Pop.bit s k = 1) (hq : q < 4) (hn : l[k].node = (q : Int)) : (cntA l s k).setIfInBounds q (.int .i64 ((cntOn l s q k : Nat) + 1)) = cntA l s (k + 1) := by
  have h0 : s.testBit k = true := by
    have := bit_of s k
    rw [hb] at this
    cases ht : s.testBit k
    · rw [ht] at this; simp at this
    · rfl
  have hz : ∀ j : Nat, cntOn l s j (k + 1) = cntOn l s j k + if q = j then 1 else 0 := by
    intro j
    rw [cntOn_next l s j k h, h0, hn]
    by_cases he : q = j
    · simp [he]
    · have : ¬ ((q : Int) = (j : Int)) := by omega
      simp [he, this]
  unfold cntA
  rw [hz 0, hz 1, hz 2, hz 3]
  rcases (show q = 0 ∨ q = 1 ∨ q = 2 ∨ q = 3 by omega) with rfl | rfl | rfl | rfl <;> simp
section
attribute [local irreducible] cntOn cntA
end
end Go.Proofs.YticmfflnenoplaaDoor
namespace Go.Proofs.YticmfflnenoplaaDoor
open Go.RowKit Tp
theorem clash_zero (l : List Cpu) (c : Cpu) : clash l 0 c = false := by simp [clash]
theorem clash_next (l : List Cpu) (k : Nat) (h : k < l.length) (c : Cpu) : clash l (k + 1) c = (clash l k c || (l[k].core == c.core && l[k] != c)) := by
  unfold clash
  rw [List.take_succ_eq_append_getElem h, List.any_append]
  simp
theorem clash_mono (l : List Cpu) (k n : Nat) (h : k ≤ n) (c : Cpu) (hc : clash l k c = true) : clash l n c = true := by
  obtain ⟨i, h1, h2, h3⟩ := (clash_iff l k c).1 hc
  exact (clash_iff l n c).2 ⟨i, h1, by omega, h3⟩
def FaultPost (n : Int) (w : World) (e : Ending) (w' : World) : Prop := e = .returned (.int .i64 n) ∧ Below w.heap.size w w'
theorem below_drewN {B : Nat} {a w : World} (h : Below B a w) (n : Nat) : Below B a (w.drewN n) := ⟨h.os, h.tape, h.output, h.size, h.block⟩
theorem FaultPost.mk' {n m : Int} {w w' : World} (h : n = m) (hb : Below w.heap.size w w') : FaultPost n w (.returned (.int .i64 m)) w' := ⟨by rw [h], hb⟩
section
attribute [local irreducible] fault clash badB Fault
set_option maxRecDepth 100000 in
set_option maxHeartbeats 4000000 in
theorem TopoFault_any (l : List Cpu) (v : Value) (B : Nat) (w : World) (hB : B ≤ w.heap.size) (hR : RS w (· < B) 3 RCpu [v] l) :
    Calls Tryd.prog 10 #[v] w (FaultPost (Fault l) w) := by
  obtain ⟨A, c, e, hc1, hc2, hA⟩ := hR.form
  obtain rfl : v = _ := by simpa using e
  unfold maxLen at hc2
  have HA := Lib.hid hA
  have HR := Lib.hid hR
  clear hA hR e
  by_cases h1 : l.length < 1
  · have HF := Lib.hid (show Fault l = 2 by unfold Fault; rw [if_pos (.inl h1)])
    go_enter Tryd.func10, Tryd.ntmps10
    go_wp2_with fail
    go_ret
    exact FaultPost.mk' (by rw [HF.out]) (Below.refl _ _)
  by_cases h2 : 64 < l.length
  · have HF := Lib.hid (show Fault l = 2 by unfold Fault; rw [if_pos (.inr h2)])
    go_enter Tryd.func10, Tryd.ntmps10
    go_wp2_with fail
    go_ret
    exact FaultPost.mk' (by rw [HF.out]) (Below.refl _ _)
  have HL := Lib.hid (show ¬ (l.length < 1 ∨ 64 < l.length) by omega)
  go_enter Tryd.func10, Tryd.ntmps10
  go_upto_region 4 with fail
  go_loopw [3] (fun i wr => ∃ n : Nat, i = .int .i64 n ∧ n ≤ l.length ∧ Hid (fault l n = 0) ∧ Below w.heap.size w wr) (fun i _ => l.length - (intOf i).toNat)
  case atStart => exact ⟨0, rfl, by omega, by unfold Hid; unfold fault; rfl, Below.refl _ _⟩
  case round =>
    obtain ⟨n, rfl, hn, hft, hbel⟩ := hrel
    by_cases hlt : n < l.length
    · obtain ⟨b, off, rfl, hb⟩ := HA.out n hlt
      obtain ⟨_, cs', q1, q2, q3, q4⟩ := HR.out.at_ hlt
      have r0 := (hbel.cell (p := ⟨b, off + n * 3 + 0, none⟩) (by dsimp only; omega)).trans (q2 0 _ (by rw [q3]; rfl))
      have r1 := (hbel.cell (p := ⟨b, off + n * 3 + 1, none⟩) (by dsimp only; omega)).trans (q2 1 _ (by rw [q3]; rfl))
      have r2 := (hbel.cell (p := ⟨b, off + n * 3 + 2, none⟩) (by dsimp only; omega)).trans (q2 2 _ (by rw [q3]; rfl))
      rw [Nat.add_zero] at r0
      have hfb := Lib.hid (fault_bad l n hlt HL.out hft.out)
      have hfc := Lib.hid (fault_clash l n hlt HL.out hft.out)
      have hff := Lib.hid (fault_fine l n hlt hft.out)
      generalize l[n] = x at *
      obtain ⟨x0, x1, x2⟩ := x
      dsimp only at r0 r1 r2
      have hszw := hbel.size
      have hbb := Lib.hid (show badB ⟨x0, x1, x2⟩ = (decide (x0 < 0) || decide (63 < x0) || decide (x1 < 0) || decide (63 < x1) || decide (x2 < 0) || decide (3 < x2)) by unfold badB; rfl)
      have hd : (x0 < 0 ∨ (0 ≤ x0 ∧ 63 < x0) ∨ (0 ≤ x0 ∧ x0 ≤ 63 ∧ x1 < 0) ∨ (0 ≤ x0 ∧ x0 ≤ 63 ∧ 0 ≤ x1 ∧ 63 < x1) ∨ (0 ≤ x0 ∧ x0 ≤ 63 ∧ 0 ≤ x1 ∧ x1 ≤ 63 ∧ x2 < 0) ∨ (0 ≤ x0 ∧ x0 ≤ 63 ∧ 0 ≤ x1 ∧ x1 ≤ 63 ∧ 0 ≤ x2 ∧ 3 < x2)) ∨ (0 ≤ x0 ∧ x0 ≤ 63 ∧ 0 ≤ x1 ∧ x1 ≤ 63 ∧ 0 ≤ x2 ∧ x2 ≤ 3) := by omega
      have hbel2 : Below w.heap.size w (wr.alloc (.cells #[.int .i64 x0, .int .i64 x1, .int .i64 x2] 56)) := hbel.alloc hszw _
      have bk := Blk.new wr 56 #[.int .i64 x0, .int .i64 x1, .int .i64 x2]
      clear q1 q2 q3 q4
      rcases hd with hd | ⟨c0, c1, c2, c3, c4, c5⟩
      · have hbt := Lib.hid (show badB ⟨x0, x1, x2⟩ = true by rw [hbb.out]; simp; omega)
        rcases hd with h | ⟨ha, h⟩ | ⟨ha, hb, h⟩ | ⟨ha, hb, hc, h⟩ | ⟨ha, hb, hc, hd, h⟩ | ⟨ha, hb, hc, hd, he, h⟩
        all_goals
          go_wp2_with fail
          go_ret
          exact FaultPost.mk' (by rw [hfb.out hbt.out]) (hbel2)
      · have hbt := Lib.hid (show badB ⟨x0, x1, x2⟩ = false by rw [hbb.out]; simp; omega)
        have HFF := Lib.hid (hff.out hbt.out)
        have HFC := Lib.hid (hfc.out hbt.out)
        go_upto_region 10 with fail
        generalize wr.alloc (.cells #[.int .i64 x0, .int .i64 x1, .int .i64 x2] 56) = wa at *
        clear r0 r1 r2 hfb hfc hff hbb hbt
        generalize wr.heap.size = pk at *
        go_loopw [5] (fun j wi => ∃ k : Nat, j = .int .i64 k ∧ k ≤ n ∧ Hid (clash l k ⟨x0, x1, x2⟩ = false) ∧ Blk wi pk 56 #[.int .i64 x0, .int .i64 x1, .int .i64 x2] ∧ Below w.heap.size w wi) (fun j _ => n - (intOf j).toNat)
        case atStart => exact ⟨0, rfl, by omega, clash_zero _ _, bk, hbel2⟩
        case round =>
          obtain ⟨k, rfl, hk, hcl, bi, hbi⟩ := hrel
          by_cases hkn : k < n
          · obtain ⟨_, cs', q1, q2, q3, q4⟩ := HR.out.at_ (i := k) (by omega)
            have r0 := (hbi.cell (p := ⟨b, off + k * 3 + 0, none⟩) (by dsimp only; omega)).trans (q2 0 _ (by rw [q3]; rfl))
            have r1 := (hbi.cell (p := ⟨b, off + k * 3 + 1, none⟩) (by dsimp only; omega)).trans (q2 1 _ (by rw [q3]; rfl))
            have r2 := (hbi.cell (p := ⟨b, off + k * 3 + 2, none⟩) (by dsimp only; omega)).trans (q2 2 _ (by rw [q3]; rfl))
            rw [Nat.add_zero] at r0
            have hnx := Lib.hid (clash_next l k (by omega) ⟨x0, x1, x2⟩)
            have hmono := Lib.hid (clash_mono l (k + 1) n (by omega) ⟨x0, x1, x2⟩)
            generalize l[k] = y at *
            obtain ⟨y0, y1, y2⟩ := y
            dsimp only at r0 r1 r2
            have ei := bi.cells
            have el := bi.lt
            have hkl : k < l.length := by omega
            clear q1 q2 q3 q4
            have hd : y0 ≠ x0 ∨ (y0 = x0 ∧ y1 = x1 ∧ y2 = x2) ∨ (y0 = x0 ∧ y1 ≠ x1) ∨ (y0 = x0 ∧ y1 = x1 ∧ y2 ≠ x2) := by omega
            rcases hd with h0 | ⟨rfl, rfl, rfl⟩ | hd
            · have hN := Lib.hid (show clash l (k + 1) ⟨x0, x1, x2⟩ = false by rw [hnx.out, hcl.out]; simp [h0])
              have hb0 : (y0 == x0) = false := by simpa using h0
              clear h0
              go_upto_region 12 with fail
              go_quiet (fail)
              go_wp2_with fail
              go_roundw
              case rel => exact ⟨k + 1, by go_num, by omega, hN.out, bi.drewN _, below_drewN hbi _⟩
              case measure => simp [intOf]; omega
            · have hN := Lib.hid (show clash l (k + 1) ⟨y0, y1, y2⟩ = false by rw [hnx.out, hcl.out]; simp)
              go_upto_region 12 with fail
              go_quiet (fail)
              go_wp2_with fail
              go_roundw
              case rel => exact ⟨k + 1, by go_num, by omega, hN.out, bi.drewN _, below_drewN hbi _⟩
              case measure => simp [intOf]; omega
            · have hY := Lib.hid (show clash l (k + 1) ⟨x0, x1, x2⟩ = true by rw [hnx.out, hcl.out]; simp; omega)
              rcases hd with ⟨rfl, hd⟩ | ⟨rfl, rfl, hd⟩
              all_goals
                go_upto_region 12 with fail
                go_quiet (fail)
                go_wp2_with fail
                go_ret
                exact FaultPost.mk' (by rw [HFC.out (hmono.out hY.out)]) (below_drewN hbi _)
          · obtain rfl : k = n := by omega
            go_wp2_with fail
            go_roundw
            case rel => exact ⟨k + 1, by go_num, by omega, HFF.out hcl.out, hbi⟩
            case measure => simp [intOf]; omega
    · obtain rfl : n = l.length := by omega
      have HFE := Lib.hid (fault_end l HL.out hft.out)
      go_wp2_with fail
      go_ret
      exact FaultPost.mk' (by rw [HFE.out]) (hbel)
end
end Go.Proofs.YticmfflnenoplaaDoor
namespace Go.Proofs.YticmfflnenoplaaDoor
open Go.RowKit Tp
theorem RS.keep {α : Type} {w w' : World} {B C : Nat} {R : List Value → α → Prop} {cs : List Value} {l : List α} (h : RS w (· < B) C R cs l) (hb : Below B w w') : RS w' (· < B) C R cs l :=
  h.move (fun b hb' => hb.block b hb') (fun _ h => h) (fun _ _ _ h => h)
def l0 : List Cpu := [⟨0, 0, 0⟩, ⟨1, 0, 1⟩]
theorem fault0 : Fault l0 = 0 := by decide +kernel
theorem all0 : wh (fun _ => true) l0 l0.length = 3 := by decide +kernel
theorem on0 : wh (fun c => onB 2 c) l0 l0.length = 2 := by decide +kernel
theorem node0 : ∀ c, c ∈ l0 → 0 ≤ c.node ∧ c.node ≤ 3 := by
  intro c hc
  simp [l0] at hc
  rcases hc with rfl | rfl <;> simp
section
attribute [local irreducible] Fault wh TopoAt
end
end Go.Proofs.YticmfflnenoplaaDoor
