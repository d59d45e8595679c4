/- Texts laid together: SvL, HdA, HdB, SvM, SvN, SvNp, FloD, SvNc, SvO, SvP, SvQ, TfA. No statement is proved here. -/
import Derived.Test.YticmfflnenoplacGreatDoorQ05
namespace Go.Proofs.YticmfflnenoplacGreatDoor
open Go.RowKit Go.Deep Pop Bi Da Sv Qo
namespace Sv
def wordsC (c : UInt8) (s : ByteArray) : List ByteArray := Lib.splitB ⟨#[c]⟩ 0 (Lib.countB s ⟨#[c]⟩) s
theorem wordsC_data (c : UInt8) (s : ByteArray) : (wordsC c s).map (fun b : ByteArray => b.data.toList) = Lib.split s.data.toList [c] := by
  unfold wordsC Lib.split
  rw [Lib.splitB_data]
theorem wordsC_len (c : UInt8) (s : ByteArray) : (wordsC c s).length = Lib.countB s ⟨#[c]⟩ + 1 := Lib.splitB_all ⟨#[c]⟩ (Nat.le_refl 1) 0 _ s rfl
theorem wordsC_le (c : UInt8) (s : ByteArray) : ∀ x ∈ wordsC c s, x.size ≤ s.size := split_le _ _ rfl _ _
theorem orG_lt : ∀ (L : List (List UInt8)) (out : Nat), out < 18446744073709551616 → (goW out L).1 < 18446744073709551616
  | [], out, h => h
  | w :: L, out, h => by
    unfold goW
    split
    · decide
    · split
      · decide
      · rename_i h1 h2
        simp only [Bool.or_eq_true, not_or, decide_eq_true_eq] at h1
        exact orG_lt L _ (orR_lt h (by omega))
theorem parse_lt (s : List UInt8) : (parseP s).1 < 18446744073709551616 := by
  unfold parseP
  split
  · decide
  · split
    · decide
    · exact orG_lt _ _ (by decide)
end Sv
/-- What a reading of a number comes to. -/
def NumR (r : Nat) (bad : Bool) (s : List UInt8) (w : World) (e : Ending) (w' : World) : Prop :=
  ∃ (n : Int) (b : Bool), e = .returned (.int .i64 n) ∧ (-9223372036854775808 ≤ n ∧ n ≤ 9223372036854775807) ∧ Blk w' r 188 #[.bool b] ∧ Kept (fun k => k = r) w w' ∧ (∀ m : Int, 0 ≤ m → m ≤ 1125899906842624 → s = Lib.itoa m → n = m ∧ b = bad)
def SetR (r : Nat) (bad : Bool) (s : List UInt8) (w : World) (e : Ending) (w' : World) : Prop :=
  ∃ (x : Nat) (b : Bool), e = .returned (.int .u64 x) ∧ x < 18446744073709551616 ∧ Blk w' r 188 #[.bool b] ∧ Kept (fun k => k = r) w w' ∧ (∀ q : Nat, q < 18446744073709551616 → s = setT q → x = q ∧ b = bad)
theorem rd_set {w w' : World} {r : Nat} {cs : Array Value} (_h : Blk w r 188 cs) (hc : cs.size = 1) (hk : Kept (fun k => k = r) w w') (h' : Blk w' r 188 cs) (b : Bool) :
    Blk (w'.setCell ⟨r, 0, none⟩ (.bool b)) r 188 #[.bool b] ∧ Kept (fun k => k = r) w (w'.setCell ⟨r, 0, none⟩ (.bool b)) := by
  refine ⟨(h'.set_ 0 (.bool b)).cast ?_, hk.set1 _⟩
  apply Array.ext
  · simp [hc]
  · intro i h1 h2
    simp at h2
    subst h2
    simp
section
attribute [local irreducible] Lib.itoa Lib.atoiAll setT parseP
set_option maxRecDepth 100000 in
set_option maxHeartbeats 2000000 in
theorem rnumber_any (r : Nat) (bad : Bool) (s : ByteArray) (hs : s.size ≤ 7000) (w : World) (hr : Blk w r 188 #[.bool bad]) (hL : LayS w) : Calls Tryz.prog 137 #[.pointer (some ⟨r, 0, none⟩), .string s] w (NumR r bad s.data.toList w) := by
  have HL := Lib.hid hL
  clear hL
  cases ha : Lib.atoiAll s.data.toList with
  | ok v =>
    have HAT := Lib.hid (Tryz.strconv_Atoi_ok s (by omega) v ha w)
    have hvb := Lib.atoiAll_bounds ha
    have HV : Hid (∀ m : Int, 0 ≤ m → m ≤ 1125899906842624 → s.data.toList = Lib.itoa m → v = m) := Lib.hid (fun m h0 h1 he => by
      rw [he, atoi_itoa h0 (by omega)] at ha
      injection ha with ha
      exact ha.symm)
    clear ha
    have HR := Lib.hid hr
    clear hr
    go_enter Tryz.func137, Tryz.ntmps137
    go_wp2_with fail
    refine HAT.out.mono ?_
    rintro e w1 ⟨rfl, hw1⟩
    have hb1 : Below w.heap.size w w1 := by
      rcases hw1 with rfl | ⟨t, rfl⟩
      · exact Below.refl _ _
      · exact Go.Joins.below_bytesWorld _ _ _ _ (Nat.le_refl _)
    have k1 := HR.out.below hb1 HR.out.lt
    have e1 := k1.cells
    have z1 := k1.lt
    have f1 := k1.frozens
    clear hw1 HAT
    cases bad
    · go_wp2_with fail
      go_ret
      obtain ⟨q1, q2⟩ := rd_set HR.out rfl (Kept.of_below hb1) k1 false
      exact ⟨v, false, rfl, hvb, q1, q2, fun m h0 h1 he => ⟨HV.out m h0 h1 he, rfl⟩⟩
    · go_wp2_with fail
      go_ret
      obtain ⟨q1, q2⟩ := rd_set HR.out rfl (Kept.of_below hb1) k1 true
      exact ⟨v, true, rfl, hvb, q1, q2, fun m h0 h1 he => ⟨HV.out m h0 h1 he, rfl⟩⟩
  | «syntax» =>
    obtain ⟨tp, p, hp⟩ := HL.out.syn
    have HAT := Lib.hid (Tryz.strconv_Atoi_syntax_var s (by omega) ha tp p w hp)
    have HV : Hid (∀ m : Int, 0 ≤ m → m ≤ 1125899906842624 → s.data.toList = Lib.itoa m → False) := Lib.hid (fun m h0 h1 he => by
      rw [he, atoi_itoa h0 (by omega)] at ha
      cases ha)
    clear ha hp
    have HR := Lib.hid hr
    clear hr
    go_enter Tryz.func137, Tryz.ntmps137
    go_wp2_with fail
    refine HAT.out.mono ?_
    rintro e w1 ⟨N, rfl, _, _, hb1⟩
    have k1 := HR.out.below hb1 HR.out.lt
    have e1 := k1.cells
    have z1 := k1.lt
    have f1 := k1.frozens
    clear HAT
    cases bad <;>
      (go_wp2_with fail
       go_ret
       obtain ⟨q1, q2⟩ := rd_set HR.out rfl (Kept.of_below hb1) k1 true
       exact ⟨0, true, rfl, by omega, q1, q2, fun m h0 h1 he => (HV.out m h0 h1 he).elim⟩)
  | range =>
    obtain ⟨tp, p, hp⟩ := HL.out.rng
    have HAT := Lib.hid (Tryz.strconv_Atoi_range_var s (by omega) ha tp p w hp)
    have HV : Hid (∀ m : Int, 0 ≤ m → m ≤ 1125899906842624 → s.data.toList = Lib.itoa m → False) := Lib.hid (fun m h0 h1 he => by
      rw [he, atoi_itoa h0 (by omega)] at ha
      cases ha)
    have hsb := Lib.atoiSat_bounds s.data.toList
    clear ha hp
    have HR := Lib.hid hr
    clear hr
    go_enter Tryz.func137, Tryz.ntmps137
    go_wp2_with fail
    refine HAT.out.mono ?_
    rintro e w1 ⟨N, rfl, _, _, hb1⟩
    generalize Lib.atoiSat s.data.toList = m at *
    have k1 := HR.out.below hb1 HR.out.lt
    have e1 := k1.cells
    have z1 := k1.lt
    have f1 := k1.frozens
    clear HAT
    cases bad <;>
      (go_wp2_with fail
       go_ret
       obtain ⟨q1, q2⟩ := rd_set HR.out rfl (Kept.of_below hb1) k1 true
       exact ⟨m, true, rfl, hsb, q1, q2, fun m h0 h1 he => (HV.out m h0 h1 he).elim⟩)
theorem dash_eq (s : ByteArray) : (s.toList == [45]) = decide (s.data.toList = [45]) := by rw [data_list, Bool.eq_iff_iff]; simp
set_option maxRecDepth 100000 in
set_option maxHeartbeats 2000000 in
theorem rset_any (r : Nat) (bad : Bool) (s : ByteArray) (hs : s.size ≤ 7000) (w : World) (hr : Blk w r 188 #[.bool bad]) (hL : LayS w) : Calls Tryz.prog 139 #[.pointer (some ⟨r, 0, none⟩), .string s] w (SetR r bad s.data.toList w) := by
  have HR := Lib.hid hr
  clear hr
  by_cases hd : s.data.toList = [45]
  · obtain rfl : s = ⟨#[45]⟩ := Go.WideShapes.bytes_inj (by rw [hd])
    have HV : Hid (∀ q : Nat, q < 18446744073709551616 → [45] = setT q → 0 = q) := Lib.hid (fun q h0 he => (setT_dash h0 he.symm).symm)
    clear hL hd
    go_enter Tryz.func139, Tryz.ntmps139
    go_wp2_with fail
    go_ret
    exact ⟨0, bad, rfl, by omega, HR.out, Kept.refl _ _, fun q h0 he => ⟨HV.out q h0 he, rfl⟩⟩
  · have hE : (s.toList == [45]) = false := by rw [dash_eq]; simpa using hd
    have HP := Lib.hid (Parse_any s hs w hL)
    have hlt := parse_lt s.data.toList
    have HV : Hid (∀ q : Nat, q < 18446744073709551616 → s.data.toList = setT q → (parseP s.data.toList) = (q, 0)) := Lib.hid (fun q h0 he => by
      have : setT q = textP q := by
        unfold setT
        split
        · rename_i hz
          exact absurd (by rw [he, setT, if_pos hz]) hd
        · rfl
      rw [he, this, (parse_text h0).1])
    clear hL hd
    generalize parseP s.data.toList = pp at *
    obtain ⟨x, f⟩ := pp
    dsimp only at *
    go_enter Tryz.func139, Tryz.ntmps139
    go_wp2_with fail
    refine HP.out.mono ?_
    rintro e w1 ⟨rfl, hb1⟩
    have k1 := HR.out.below hb1 HR.out.lt
    have e1 := k1.cells
    have z1 := k1.lt
    have f1 := k1.frozens
    clear HP
    by_cases hf : f = 0
    · subst hf
      dsimp only
      rw [errV_0]
      cases bad
      · go_wp2_with fail
        go_ret
        obtain ⟨q1, q2⟩ := rd_set HR.out rfl (Kept.of_below hb1) k1 false
        exact ⟨x, false, rfl, hlt, q1, q2, fun q h0 he => ⟨congrArg Prod.fst (HV.out q h0 he), rfl⟩⟩
      · go_wp2_with fail
        go_ret
        obtain ⟨q1, q2⟩ := rd_set HR.out rfl (Kept.of_below hb1) k1 true
        exact ⟨x, true, rfl, hlt, q1, q2, fun q h0 he => ⟨congrArg Prod.fst (HV.out q h0 he), rfl⟩⟩
    · have HN : Hid (∀ q : Nat, q < 18446744073709551616 → s.data.toList = setT q → False) := Lib.hid (fun q h0 he => hf (congrArg Prod.snd (HV.out q h0 he)))
      dsimp only
      rw [errV_pos f hf]
      clear HV
      cases bad <;>
        (go_wp2_with fail
         go_ret
         obtain ⟨q1, q2⟩ := rd_set HR.out rfl (Kept.of_below hb1) k1 true
         exact ⟨x, true, rfl, hlt, q1, q2, fun q h0 he => (HN.out q h0 he).elim⟩)
end
end Go.Proofs.YticmfflnenoplacGreatDoor
namespace Go.Proofs.YticmfflnenoplacGreatDoor
open Go.RowKit Go.Deep Pop Bi Da Sv
/-- A block of elements of the type t. -/
def Ty (w : World) (t : TypeId) (b : Nat) : Prop := ∃ cs, Blk w b t cs
theorem Ty.lt {w : World} {t : TypeId} {b : Nat} (h : Ty w t b) : b < w.heap.size := by
  obtain ⟨cs, h⟩ := h
  exact h.lt
theorem Ty.same {w w' : World} {t : TypeId} {b : Nat} (h : Ty w t b) (hb : w'.heap[b]? = w.heap[b]?) : Ty w' t b := by
  obtain ⟨cs, h⟩ := h
  exact ⟨cs, hb.trans h⟩
theorem Ty.kept {w w' : World} {t : TypeId} {b : Nat} {S : Nat → Prop} (h : Ty w t b) (hk : Kept S w w') (hs : ¬ S b) : Ty w' t b := h.same (hk.block b h.lt hs)
theorem Ty.below {w w' : World} {t : TypeId} {b : Nat} (h : Ty w t b) (hk : Below w.heap.size w w') : Ty w' t b := h.same (hk.block b h.lt)
theorem Ty.ne {w : World} {t t' : TypeId} {b b' : Nat} (h : Ty w t b) (h' : Ty w t' b') (hne : t ≠ t') : b ≠ b' := by
  obtain ⟨_, h⟩ := h
  obtain ⟨_, h'⟩ := h'
  exact h.ne_ h' hne
theorem own_ty {w : World} {base : Nat} {e : TypeId} {size n : Nat} {v : Value} {xs : List Value} (h : w.ownsRow base e size v n xs) {g : Nat} (hg : v.ownBlock = some g) : Ty w e g ∧ base ≤ g := by
  rcases h.2 with ⟨rfl, _⟩ | ⟨g', cap, cur, rfl, h2, h3, _⟩
  · simp [Value.ownBlock] at hg
  · have : g' = g := by simpa [Value.ownBlock] using hg
    subst this
    exact ⟨⟨_, h3⟩, h2⟩
/-! ### Readings over kinds of blocks -/
def RContS (w : World) (SN : Nat → Prop) (cs : List Value) (c : Cont) : Prop :=
  ∃ dv, cs = [.string c.name, .int .i64 c.askM, .int .i64 c.askB, .int .i64 c.capM, .int .i64 c.capB, dv] ∧ c.name.size ≤ maxLen ∧
    (-9223372036854775808 ≤ c.askM ∧ c.askM ≤ 9223372036854775807) ∧ (-9223372036854775808 ≤ c.askB ∧ c.askB ≤ 9223372036854775807) ∧
    (-9223372036854775808 ≤ c.capM ∧ c.capM ≤ 9223372036854775807) ∧ (-9223372036854775808 ≤ c.capB ∧ c.capB ≤ 9223372036854775807) ∧ RS w SN 2 RNeed [dv] c.devs
def RPodS (w : World) (SC SN : Nat → Prop) (cs : List Value) (p : Pod) : Prop :=
  ∃ cv, cs = [.string p.name, .int .i64 p.prio, cv] ∧ p.name.size ≤ maxLen ∧ (-9223372036854775808 ≤ p.prio ∧ p.prio ≤ 9223372036854775807) ∧ RS w SC 6 (RContS w SN) [cv] p.conts
def RGivenS (w : World) (SI : Nat → Prop) (cs : List Value) (g : Given) : Prop :=
  ∃ dv, cs = [.int .u64 g.cpus, dv] ∧ g.cpus < 18446744073709551616 ∧ RS w SI 1 RInt [dv] g.devs
def RHeldS (w : World) (SC SG SN SI : Nat → Prop) (cs : List Value) (h : Held) : Prop :=
  ∃ cv gv, cs = [.string h.pod.name, .int .i64 h.pod.prio, cv, gv] ∧ RPodS w SC SN [.string h.pod.name, .int .i64 h.pod.prio, cv] h.pod ∧ RS w SG 2 (RGivenS w SI) [gv] h.given
section
variable {w w' : World} {SC SG SN SI SC' SG' SN' SI' : Nat → Prop} {cs : List Value}
theorem RContS.move {c : Cont} (h : RContS w SN cs c) (hw : ∀ b, SN b → w'.heap[b]? = w.heap[b]?) (hS : ∀ b, SN b → SN' b) : RContS w' SN' cs c := by
  obtain ⟨dv, h1, h2, h3, h4, h5, h6, h7⟩ := h
  exact ⟨dv, h1, h2, h3, h4, h5, h6, h7.move hw hS fun _ _ _ h => h⟩
theorem RPodS.move {p : Pod} (h : RPodS w SC SN cs p) (hc : ∀ b, SC b → w'.heap[b]? = w.heap[b]?) (hC : ∀ b, SC b → SC' b) (hn : ∀ b, SN b → w'.heap[b]? = w.heap[b]?) (hN : ∀ b, SN b → SN' b) : RPodS w' SC' SN' cs p := by
  obtain ⟨cv, h1, h2, h3, h4⟩ := h
  exact ⟨cv, h1, h2, h3, h4.move hc hC fun _ _ _ h => h.move hn hN⟩
theorem RGivenS.move {g : Given} (h : RGivenS w SI cs g) (hw : ∀ b, SI b → w'.heap[b]? = w.heap[b]?) (hS : ∀ b, SI b → SI' b) : RGivenS w' SI' cs g := by
  obtain ⟨dv, h1, h2, h3⟩ := h
  exact ⟨dv, h1, h2, h3.move hw hS fun _ _ _ h => h⟩
theorem RHeldS.move {x : Held} (h : RHeldS w SC SG SN SI cs x) (hc : ∀ b, SC b → w'.heap[b]? = w.heap[b]?) (hC : ∀ b, SC b → SC' b) (hg : ∀ b, SG b → w'.heap[b]? = w.heap[b]?) (hG : ∀ b, SG b → SG' b)
    (hn : ∀ b, SN b → w'.heap[b]? = w.heap[b]?) (hN : ∀ b, SN b → SN' b) (hi : ∀ b, SI b → w'.heap[b]? = w.heap[b]?) (hI : ∀ b, SI b → SI' b) : RHeldS w' SC' SG' SN' SI' cs x := by
  obtain ⟨cv, gv, h1, h2, h3⟩ := h
  exact ⟨cv, gv, h1, h2.move hc hC hn hN, h3.move hg hG fun _ _ _ h => h.move hi hI⟩
theorem RContS.to {c : Cont} {B : Nat} (h : RContS w SN cs c) (hS : ∀ b, SN b → b < B) : RCont w B cs c := h.move (w' := w) (fun _ _ => rfl) hS
theorem RPodS.to {p : Pod} {B : Nat} (h : RPodS w SC SN cs p) (hC : ∀ b, SC b → b < B) (hN : ∀ b, SN b → b < B) : RPod w B cs p := by
  obtain ⟨cv, h1, h2, h3, h4⟩ := h
  exact ⟨cv, h1, h2, h3, h4.move (w' := w) (fun _ _ => rfl) hC fun _ _ _ h => h.to hN⟩
theorem RGivenS.to {g : Given} {B : Nat} (h : RGivenS w SI cs g) (hI : ∀ b, SI b → b < B) : RGiven w B cs g := h.move (w' := w) (fun _ _ => rfl) hI
theorem RHeldS.to {x : Held} {B : Nat} (h : RHeldS w SC SG SN SI cs x) (hC : ∀ b, SC b → b < B) (hG : ∀ b, SG b → b < B) (hN : ∀ b, SN b → b < B) (hI : ∀ b, SI b → b < B) : RHeld w B cs x := by
  obtain ⟨cv, gv, h1, h2, h3⟩ := h
  exact ⟨cv, gv, h1, h2.to hC hN, h3.move (w' := w) (fun _ _ => rfl) hG fun _ _ _ h => h.to hI⟩
end
/-! ### The kinds of data -/
def dataT (t : TypeId) : Prop := t = 69 ∨ t = 73 ∨ t = 80 ∨ t = 128 ∨ t = 3 ∨ t = 45
/-- The data of w stand in w', too. -/
structure Dat (w w' : World) : Prop where
  size : w.heap.size ≤ w'.heap.size
  same : ∀ t b, dataT t → Ty w t b → w'.heap[b]? = w.heap[b]?
theorem Dat.refl (w : World) : Dat w w := ⟨Nat.le_refl _, fun _ _ _ _ => rfl⟩
theorem Dat.trans {a b c : World} (h : Dat a b) (k : Dat b c) : Dat a c := ⟨Nat.le_trans h.size k.size, fun t g ht hg => (k.same t g ht (hg.same (h.same t g ht hg))).trans (h.same t g ht hg)⟩
theorem Dat.of_below {w w' : World} (h : Below w.heap.size w w') : Dat w w' := ⟨h.size, fun _ _ _ hg => h.block _ hg.lt⟩
theorem Dat.of_kept {w w' : World} {S : Nat → Prop} (h : Kept S w w') (hs : ∀ t b, dataT t → Ty w t b → ¬ S b) : Dat w w' := ⟨h.size, fun t b ht hg => h.block b hg.lt (hs t b ht hg)⟩
theorem Dat.ty {w w' : World} (h : Dat w w') {t : TypeId} {b : Nat} (ht : dataT t) (hg : Ty w t b) : Ty w' t b := hg.same (h.same t b ht hg)
def ContT (w : World) : List Value → Cont → Prop := RContS w (Ty w 128)
def PodT (w : World) : List Value → Pod → Prop := RPodS w (Ty w 73) (Ty w 128)
def GivenT (w : World) : List Value → Given → Prop := RGivenS w (Ty w 3)
def HeldT (w : World) : List Value → Held → Prop := RHeldS w (Ty w 73) (Ty w 80) (Ty w 128) (Ty w 3)
def HeldsT (w : World) (v : Value) (l : List Held) : Prop := RS w (Ty w 69) 4 (HeldT w) [v] l
theorem dtH : dataT 69 := .inl rfl
theorem dtC : dataT 73 := .inr (.inl rfl)
theorem dtG : dataT 80 := .inr (.inr (.inl rfl))
theorem dtN : dataT 128 := .inr (.inr (.inr (.inl rfl)))
theorem dtI : dataT 3 := .inr (.inr (.inr (.inr (.inl rfl))))
theorem dtP : dataT 45 := .inr (.inr (.inr (.inr (.inr rfl))))
section
variable {w w' : World} {cs : List Value}
theorem ContT.dat {c : Cont} (h : ContT w cs c) (hd : Dat w w') : ContT w' cs c := h.move (hd.same _ · dtN) fun _ => hd.ty dtN
theorem PodT.dat {p : Pod} (h : PodT w cs p) (hd : Dat w w') : PodT w' cs p := h.move (hd.same _ · dtC) (fun _ => hd.ty dtC) (hd.same _ · dtN) fun _ => hd.ty dtN
theorem GivenT.dat {g : Given} (h : GivenT w cs g) (hd : Dat w w') : GivenT w' cs g := h.move (hd.same _ · dtI) fun _ => hd.ty dtI
theorem HeldT.dat {x : Held} (h : HeldT w cs x) (hd : Dat w w') : HeldT w' cs x :=
  h.move (hd.same _ · dtC) (fun _ => hd.ty dtC) (hd.same _ · dtG) (fun _ => hd.ty dtG) (hd.same _ · dtN) (fun _ => hd.ty dtN) (hd.same _ · dtI) fun _ => hd.ty dtI
theorem HeldsT.dat {v : Value} {l : List Held} (h : HeldsT w v l) (hd : Dat w w') : HeldsT w' v l := RS.move h (hd.same _ · dtH) (fun _ => hd.ty dtH) fun _ _ _ h => HeldT.dat h hd
theorem ContT.to {c : Cont} (h : ContT w cs c) : RCont w w.heap.size cs c := RContS.to h fun _ h => h.lt
theorem PodT.to {p : Pod} (h : PodT w cs p) : RPod w w.heap.size cs p := RPodS.to h (fun _ h => h.lt) fun _ h => h.lt
theorem GivenT.to {g : Given} (h : GivenT w cs g) : RGiven w w.heap.size cs g := RGivenS.to h fun _ h => h.lt
theorem HeldT.to {x : Held} (h : HeldT w cs x) : RHeld w w.heap.size cs x := RHeldS.to h (fun _ h => h.lt) (fun _ h => h.lt) (fun _ h => h.lt) fun _ h => h.lt
theorem HeldsT.to {v : Value} {l : List Held} (h : HeldsT w v l) : RSlice w w.heap.size 4 (RHeld w w.heap.size) [v] l := RS.move h (fun _ _ => rfl) (fun _ h => h.lt) fun _ _ _ h => HeldT.to h
theorem HeldsT.nil (w : World) (A : Option Addr) (c : Nat) (hc : c ≤ maxLen) : HeldsT w (.slice A 0 c) [] := ⟨A, c, rfl, Nat.zero_le _, hc, .inl rfl⟩
end
end Go.Proofs.YticmfflnenoplacGreatDoor
namespace Go.Proofs.YticmfflnenoplacGreatDoor
open Go.RowKit Go.Deep Pop Bi Da Sv
theorem flatten_at {rs : List (List Value)} {C : Nat} (hr : ∀ r ∈ rs, r.length = C) : ∀ (i : Nat) (hi : i < rs.length) (j : Nat), j < C → rs.flatten[i * C + j]? = rs[i][j]? := by
  induction rs with
  | nil => intro i hi; simp at hi
  | cons x rs ih =>
    have hx := hr x (by simp)
    intro i hi j hj
    rw [List.flatten_cons]
    cases i with
    | zero =>
      rw [List.getElem?_append_left (by omega)]
      simp
    | succ i =>
      rw [List.getElem?_append_right (by rw [hx, Nat.add_mul]; omega), hx, show (i + 1) * C + j - C = i * C + j by rw [Nat.add_mul]; omega, ih (fun y hy => hr y (by simp [hy])) i (by simpa using hi) j hj]
      simp
theorem flatten_len {rs : List (List Value)} {C : Nat} (hr : ∀ r ∈ rs, r.length = C) : rs.flatten.length = rs.length * C := by
  induction rs with
  | nil => simp
  | cons x rs ih => rw [List.flatten_cons, List.length_append, ih fun y hy => hr y (by simp [hy]), hr x (by simp), List.length_cons, Nat.add_mul]; omega
/-- Rows of cells read as a list. -/
structure Rows (C : Nat) {α : Type} (R : List Value → α → Prop) (rs : List (List Value)) (l : List α) : Prop where
  len : rs.length = l.length
  size : ∀ r ∈ rs, r.length = C
  read : ∀ i (h1 : i < rs.length) (h2 : i < l.length), R rs[i] l[i]
section
variable {α : Type} {C : Nat} {R R' : List Value → α → Prop} {rs : List (List Value)} {l : List α}
theorem Rows.nil (C : Nat) (R : List Value → α → Prop) : Rows C R [] [] := ⟨rfl, fun _ h => by simp at h, fun i h => by simp at h⟩
theorem Rows.mono (h : Rows C R rs l) (hR : ∀ cs x, x ∈ l → R cs x → R' cs x) : Rows C R' rs l := ⟨h.len, h.size, fun i h1 h2 => hR _ _ (List.getElem_mem _) (h.read i h1 h2)⟩
theorem Rows.snoc (h : Rows C R rs l) {r : List Value} {x : α} (hr : r.length = C) (hx : R r x) : Rows C R (rs ++ [r]) (l ++ [x]) := by
  refine ⟨by simp [h.len], ?_, ?_⟩
  · intro q hq
    rcases List.mem_append.1 hq with hq | hq
    · exact h.size q hq
    · rw [List.mem_singleton.1 hq]; exact hr
  · intro i h1 h2
    rw [List.getElem_append, List.getElem_append]
    have hl := h.len
    split
    · rename_i hi
      rw [dif_pos (by omega)]
      exact h.read i hi (by omega)
    · rename_i hi
      rw [dif_neg (by omega)]
      simp only [List.length_append, List.length_singleton] at h1 h2
      simp only [List.getElem_singleton]
      exact hx
theorem RS.flat {w : World} {S : Nat → Prop} {base : Nat} {e : TypeId} {v : Value} (h : w.ownsRow base e C v l.length rs.flatten) (hR : Rows C R rs l) (hS : ∀ g, v.ownBlock = some g → S g) : RS w S C R [v] l := by
  obtain ⟨A, cap, rfl, h1, h2, h3⟩ := own_form h
  refine ⟨A, cap, rfl, h1, h2, ?_⟩
  by_cases hz : l.length = 0
  · exact .inl hz
  · obtain ⟨g, rfl, _, _⟩ := h3 (by omega)
    refine .inr ⟨g, 0, rfl, hS g rfl, fun i hi => ?_⟩
    have hi' : i < rs.length := by rw [hR.len]; exact hi
    refine ⟨rs[i], hR.size _ (List.getElem_mem _), fun j u hu => ?_, hR.read i hi' hi⟩
    have hj : j < C := by
      have := (List.getElem?_eq_some_iff.1 hu).1
      rw [hR.size _ (List.getElem_mem _)] at this
      exact this
    have hlt : i * C + j < l.length * C := by
      have : i * C + C ≤ l.length * C := by rw [← Nat.succ_mul]; exact Nat.mul_le_mul_right _ hi
      omega
    rw [Nat.zero_add, h.cellAt _ hlt, flatten_at hR.size i hi' j hj, hu]
end
/-- The last one of those under way: its containers, and what they were given, stand in rows of the call's own, at K and behind. -/
structure PLast (w : World) (K : Nat) (cs : List Value) (x : Held) : Prop where
  ex : ∃ cv gv rc rg, cs = [.string x.pod.name, .int .i64 x.pod.prio, cv, gv] ∧ x.pod.name.size ≤ maxLen ∧ (-9223372036854775808 ≤ x.pod.prio ∧ x.pod.prio ≤ 9223372036854775807) ∧
    w.ownsRow K 73 6 cv x.pod.conts.length (List.flatten rc) ∧ Rows 6 (ContT w) rc x.pod.conts ∧ w.ownsRow K 80 2 gv x.given.length (List.flatten rg) ∧ Rows 2 (GivenT w) rg x.given
/-- One that is done: its rows lie ahead of K. -/
def PDone (w : World) (K : Nat) : List Value → Held → Prop := RHeldS w (fun b => b < K ∧ Ty w 73 b) (fun b => b < K ∧ Ty w 80 b) (Ty w 128) (Ty w 3)
theorem PDone.toT {w : World} {K : Nat} {cs : List Value} {x : Held} (h : PDone w K cs x) : HeldT w cs x :=
  RHeldS.move h (fun _ _ => rfl) (fun _ h => h.2) (fun _ _ => rfl) (fun _ h => h.2) (fun _ _ => rfl) (fun _ h => h) (fun _ _ => rfl) fun _ h => h
theorem HeldT.toD {w : World} {cs : List Value} {x : Held} (h : HeldT w cs x) : PDone w w.heap.size cs x :=
  RHeldS.move h (fun _ _ => rfl) (fun _ h => ⟨h.lt, h⟩) (fun _ _ => rfl) (fun _ h => ⟨h.lt, h⟩) (fun _ _ => rfl) (fun _ h => h) (fun _ _ => rfl) fun _ h => h
theorem PLast.toT {w : World} {K : Nat} {cs : List Value} {x : Held} (h : PLast w K cs x) : HeldT w cs x := by
  obtain ⟨cv, gv, rc, rg, h1, h2, h3, h4, h5, h6, h7⟩ := h.ex
  refine ⟨cv, gv, h1, ⟨cv, rfl, h2, h3, RS.flat h4 h5 fun g hg => (own_ty h4 hg).1⟩, RS.flat h6 h7 fun g hg => (own_ty h6 hg).1⟩
/-- Those under way: M, and the last one, x. -/
structure PL (w : World) (B K : Nat) (v : Value) (M : List Held) (x : Held) : Prop where
  ex : ∃ hs r, w.ownsRow B 69 4 v (M.length + 1) (List.flatten hs ++ r) ∧ Rows 4 (PDone w K) hs M ∧ r.length = 4 ∧ PLast w K r x
  low : B ≤ K
  high : K ≤ w.heap.size
/-- A list under way, or none. -/
def PW (w : World) (B : Nat) (v : Value) (l : List Held) : Prop := (l = [] ∧ ∃ A c, c ≤ maxLen ∧ v = .slice A 0 c ∧ w.ownsRow B 69 4 v 0 []) ∨ ∃ K M x, l = M ++ [x] ∧ PL w B K v M x
theorem PW.toT {w : World} {B : Nat} {v : Value} {l : List Held} (h : PW w B v l) : HeldsT w v l := by
  rcases h with ⟨rfl, A, c, hc, rfl, _⟩ | ⟨K, M, x, rfl, h⟩
  · exact HeldsT.nil w A c hc
  · obtain ⟨hs, r, h1, h2, h3, h4⟩ := h.ex
    have e : hs.flatten ++ r = (hs ++ [r]).flatten := by simp
    rw [e, show M.length + 1 = (M ++ [x]).length by simp] at h1
    exact RS.flat h1 ((h2.mono fun _ _ _ h => PDone.toT h).snoc h3 h4.toT) fun g hg => (own_ty h1 hg).1
/-- What a change that keeps the rows leaves. -/
theorem ContT.kept {w w' : World} {S : Nat → Prop} {cs : List Value} {c : Cont} (h : ContT w cs c) (hk : Kept S w w') (hN : ∀ b, Ty w 128 b → ¬ S b) : ContT w' cs c :=
  RContS.move h (fun b hb => hk.block b hb.lt (hN b hb)) fun b hb => hb.kept hk (hN b hb)
theorem GivenT.kept {w w' : World} {S : Nat → Prop} {cs : List Value} {g : Given} (h : GivenT w cs g) (hk : Kept S w w') (hI : ∀ b, Ty w 3 b → ¬ S b) : GivenT w' cs g :=
  RGivenS.move h (fun b hb => hk.block b hb.lt (hI b hb)) fun b hb => hb.kept hk (hI b hb)
theorem PDone.kept {w w' : World} {S : Nat → Prop} {K : Nat} {cs : List Value} {x : Held} (h : PDone w K cs x) (hk : Kept S w w') (hC : ∀ b, b < K → Ty w 73 b → ¬ S b) (hG : ∀ b, b < K → Ty w 80 b → ¬ S b) (hN : ∀ b, Ty w 128 b → ¬ S b) (hI : ∀ b, Ty w 3 b → ¬ S b) : PDone w' K cs x :=
  RHeldS.move h (fun b hb => hk.block b hb.2.lt (hC b hb.1 hb.2)) (fun b hb => ⟨hb.1, hb.2.kept hk (hC b hb.1 hb.2)⟩) (fun b hb => hk.block b hb.2.lt (hG b hb.1 hb.2)) (fun b hb => ⟨hb.1, hb.2.kept hk (hG b hb.1 hb.2)⟩)
    (fun b hb => hk.block b hb.lt (hN b hb)) (fun b hb => hb.kept hk (hN b hb)) (fun b hb => hk.block b hb.lt (hI b hb)) fun b hb => hb.kept hk (hI b hb)
theorem PLast.kept {w w' : World} {S : Nat → Prop} {K : Nat} {cs : List Value} {x : Held} (h : PLast w K cs x) (hk : Kept S w w') (hC : ∀ b, Ty w 73 b → ¬ S b) (hG : ∀ b, Ty w 80 b → ¬ S b) (hN : ∀ b, Ty w 128 b → ¬ S b) (hI : ∀ b, Ty w 3 b → ¬ S b) : PLast w' K cs x := by
  obtain ⟨cv, gv, rc, rg, h1, h2, h3, h4, h5, h6, h7⟩ := h.ex
  exact ⟨cv, gv, rc, rg, h1, h2, h3, own_kept h4 hk fun g hg => hC g (own_ty h4 hg).1, h5.mono fun _ _ _ h => h.kept hk hN, own_kept h6 hk fun g hg => hG g (own_ty h6 hg).1, h7.mono fun _ _ _ h => h.kept hk hI⟩
theorem PW.kept {w w' : World} {S : Nat → Prop} {B : Nat} {v : Value} {l : List Held} (h : PW w B v l) (hk : Kept S w w') (hS : ∀ t b, dataT t → Ty w t b → ¬ S b) : PW w' B v l := by
  rcases h with ⟨h0, A, c, hc, hv, h⟩ | ⟨K, M, x, hl, h⟩
  · exact .inl ⟨h0, A, c, hc, hv, own_kept h hk fun g hg => hS _ g dtH (own_ty h hg).1⟩
  · obtain ⟨hs, r, h1, h2, h3, h4⟩ := h.ex
    exact .inr ⟨K, M, x, hl, ⟨hs, r, own_kept h1 hk fun g hg => hS _ g dtH (own_ty h1 hg).1, h2.mono fun _ _ _ h => h.kept hk (fun b _ => hS _ b dtC) (fun b _ => hS _ b dtG) (fun b => hS _ b dtN) fun b => hS _ b dtI, h3,
      h4.kept hk (fun b => hS _ b dtC) (fun b => hS _ b dtG) (fun b => hS _ b dtN) fun b => hS _ b dtI⟩, h.low, Nat.le_trans h.high hk.size⟩
end Go.Proofs.YticmfflnenoplacGreatDoor
namespace Go.Proofs.YticmfflnenoplacGreatDoor
open Go.RowKit Go.Deep Pop Bi Da Sv Qo
theorem split_words (c : UInt8) (s : ByteArray) (hs : s.size ≤ 7000) (w : World) (hL : LayS w) : Calls Tryz.prog 101 #[.string s, .string ⟨#[c]⟩] w fun e w' => e = .returned (.slice (some ⟨w.heap.size, 0, none⟩) (wordsC c s).length (wordsC c s).length) ∧ w' = w.alloc (.cells ((wordsC c s).map Value.string).toArray 9) := by
  obtain ⟨m, hm⟩ := hL.lay.most
  have := Tryz.strings_Split s ⟨#[c]⟩ m w (by omega) hm (Nat.le_refl 1)
  rw [wordsC_len]
  unfold wordsC
  exact this
def iR (n : Int) : List Value := [.int .i64 n]
def nR (n : Need) : List Value := [.string n.kind, .int .i64 n.many]
def i64B (n : Int) : Prop := -9223372036854775808 ≤ n ∧ n ≤ 9223372036854775807
/-- What a reading of numbers comes to. -/
def NumsR (r : Nat) (bad : Bool) (s : List UInt8) (w : World) (e : Ending) (w' : World) : Prop :=
  ∃ (v : Value) (L : List Int) (b : Bool), e = .returned v ∧ RS w' (Ty w' 3) 1 RInt [v] L ∧ Blk w' r 188 #[.bool b] ∧ Kept (fun k => k = r) w w' ∧ (∀ l : List Int, (∀ n ∈ l, 0 ≤ n ∧ n ≤ 15) → s = numT l → L = l ∧ b = bad)
def NeedsR (r : Nat) (bad : Bool) (s : List UInt8) (w : World) (e : Ending) (w' : World) : Prop :=
  ∃ (v : Value) (L : List Need) (b : Bool), e = .returned v ∧ RS w' (Ty w' 128) 2 RNeed [v] L ∧ Blk w' r 188 #[.bool b] ∧ Kept (fun k => k = r) w w' ∧ (∀ l : List Need, (∀ n ∈ l, FineN n) → s = needsT l → L = l ∧ b = bad)
/-- The library stays laid while the reader alone is written. -/
theorem LayS.read {W0 w w' : World} {r : Nat} (hL : LayS W0) (hW : Below W0.heap.size W0 w) (h0 : W0.heap.size ≤ r) (hk : Kept (fun k => k = r) w w') : LayS w' ∧ Below W0.heap.size W0 w' := by
  have : Below W0.heap.size W0 w' := hW.trans (hk.below hW.size fun k hk he => by omega)
  exact ⟨hL.below this, this⟩
/-- The numbers read so far, behind m words. -/
def NumI (D : List ByteArray) (bad : Bool) (m : Nat) (L : List Int) (b : Bool) : Prop :=
  L.length = m ∧ (∀ n ∈ L, i64B n) ∧ ∀ l : List Int, (∀ n ∈ l, 0 ≤ n ∧ n ≤ 15) → D.map (fun b : ByteArray => b.data.toList) = l.map Lib.itoa → L = l.take m ∧ b = bad
def NeedI (D : List ByteArray) (bad : Bool) (m : Nat) (L : List Need) (b : Bool) : Prop :=
  L.length = m ∧ (∀ n ∈ L, n.kind.size ≤ 7000 ∧ i64B n.many) ∧ ∀ l : List Need, (∀ n ∈ l, FineN n) → D.map (fun b : ByteArray => b.data.toList) = l.map needT → L = l.take m ∧ b = bad
theorem NumI.zero (D : List ByteArray) (bad : Bool) : NumI D bad 0 [] bad := ⟨rfl, fun _ h => by simp at h, fun l _ _ => ⟨rfl, rfl⟩⟩
theorem NeedI.zero (D : List ByteArray) (bad : Bool) : NeedI D bad 0 [] bad := ⟨rfl, fun _ h => by simp at h, fun l _ _ => ⟨rfl, rfl⟩⟩
theorem NumI.next {D : List ByteArray} {bad : Bool} {m : Nat} {L : List Int} {b : Bool} (h : NumI D bad m L b) (hm : m < D.length) {n : Int} {b' : Bool} (hn : i64B n) (hr : ∀ q : Int, 0 ≤ q → q ≤ 1125899906842624 → D[m].data.toList = Lib.itoa q → n = q ∧ b' = b) : NumI D bad (m + 1) (L ++ [n]) b' := by
  refine ⟨by simp [h.1], ?_, fun l hl he => ?_⟩
  · intro q hq
    rcases List.mem_append.1 hq with hq | hq
    · exact h.2.1 q hq
    · rw [List.mem_singleton.1 hq]; exact hn
  · obtain ⟨h1, h2⟩ := h.2.2 l hl he
    have hlen : D.length = l.length := by simpa using congrArg List.length he
    have hml : m < l.length := by omega
    have hd : D[m].data.toList = Lib.itoa l[m] := by
      have := congrArg (fun q => q[m]?) he
      simpa [hm, hml] using this
    have hb := hl l[m] (List.getElem_mem hml)
    obtain ⟨e1, e2⟩ := hr l[m] hb.1 (by omega) hd
    exact ⟨by rw [h1, e1, ← List.take_succ_eq_append_getElem hml], by rw [e2, h2]⟩
theorem NeedI.next {D : List ByteArray} {bad : Bool} {m : Nat} {L : List Need} {b : Bool} (h : NeedI D bad m L b) (hm : m < D.length) {k : ByteArray} {n : Int} {b' : Bool} (hk : k.size ≤ 7000) (hn : i64B n) (hkd : k.data.toList = (Lib.cut D[m].data.toList [58]).1)
    (hr : ∀ q : Int, 0 ≤ q → q ≤ 1125899906842624 → (Lib.cut D[m].data.toList [58]).2.1 = Lib.itoa q → n = q ∧ b' = b) : NeedI D bad (m + 1) (L ++ [⟨k, n⟩]) b' := by
  refine ⟨by simp [h.1], ?_, fun l hl he => ?_⟩
  · intro q hq
    rcases List.mem_append.1 hq with hq | hq
    · exact h.2.1 q hq
    · rw [List.mem_singleton.1 hq]; exact ⟨hk, hn⟩
  · obtain ⟨h1, h2⟩ := h.2.2 l hl he
    have hlen : D.length = l.length := by simpa using congrArg List.length he
    have hml : m < l.length := by omega
    have hd : D[m].data.toList = needT l[m] := by
      have := congrArg (fun q => q[m]?) he
      simpa [hm, hml] using this
    have hf := hl l[m] (List.getElem_mem hml)
    have hc := needT_cut hf
    rw [hd, hc] at hkd hr
    obtain ⟨e1, e2⟩ := hr l[m].many (by have := hf.2.1; omega) (by have := hf.2.2; omega) rfl
    have e3 : k = l[m].kind := by rw [← toB_of k, hkd, toB_of]
    refine ⟨?_, by rw [e2, h2]⟩
    rw [h1, e1, e3, List.take_succ_eq_append_getElem hml]
theorem NumI.done {s : ByteArray} {bad : Bool} {L : List Int} {b : Bool} (h : NumI (wordsC 44 s) bad (wordsC 44 s).length L b) (hd : s.data.toList ≠ [45]) : ∀ l : List Int, (∀ n ∈ l, 0 ≤ n ∧ n ≤ 15) → s.data.toList = numT l → L = l ∧ b = bad := by
  intro l hl he
  have hne : l ≠ [] := by
    rintro rfl
    exact hd (by rw [he]; rfl)
  have hw := wordsC_data 44 s
  rw [he, numT_words (fun n hn => (hl n hn).1) hne] at hw
  obtain ⟨h1, h2⟩ := h.2.2 l hl hw
  have hlen : (wordsC 44 s).length = l.length := by simpa using congrArg List.length hw
  exact ⟨by rw [h1, hlen, List.take_length], h2⟩
theorem NeedI.done {s : ByteArray} {bad : Bool} {L : List Need} {b : Bool} (h : NeedI (wordsC 44 s) bad (wordsC 44 s).length L b) (hd : s.data.toList ≠ [45]) : ∀ l : List Need, (∀ n ∈ l, FineN n) → s.data.toList = needsT l → L = l ∧ b = bad := by
  intro l hl he
  have hne : l ≠ [] := by
    rintro rfl
    exact hd (by rw [he]; rfl)
  have hw := wordsC_data 44 s
  rw [he, needsT_words hl hne] at hw
  obtain ⟨h1, h2⟩ := h.2.2 l hl hw
  have hlen : (wordsC 44 s).length = l.length := by simpa using congrArg List.length hw
  exact ⟨by rw [h1, hlen, List.take_length], h2⟩
theorem wordsC_few (c : UInt8) (s : ByteArray) : (wordsC c s).length ≤ s.size + 1 := by
  rw [wordsC_len]
  have := Lib.countB_le ⟨#[c]⟩ (Nat.le_refl 1) s.size s (Nat.le_refl _)
  omega
theorem flat_i (L : List Int) (n : Int) : (L ++ [n]).flatMap iR = L.flatMap iR ++ [.int .i64 n] := by simp [iR]
theorem flat_n (L : List Need) (k : ByteArray) (n : Int) : (L ++ [(⟨k, n⟩ : Need)]).flatMap nR = L.flatMap nR ++ [.string k, .int .i64 n] := by simp [nR]
theorem ntT : ElemT Tryz.prog 71 128 (.agg #[.string ⟨#[]⟩, .int .i64 0]) 2 24 := ⟨Tryz.underlying71, by kernel_rfl, rfl, by omega⟩
section
attribute [local irreducible] numT needsT NumI NeedI wordsC i64B Lib.cut iR nR
set_option maxRecDepth 100000 in
set_option maxHeartbeats 4000000 in
theorem rnumbers_any (W0 : World) (hL : LayS W0) (r : Nat) (h0 : W0.heap.size ≤ r) (bad : Bool) (s : ByteArray) (hs : s.size ≤ 7000) (w : World) (hW : Below W0.heap.size W0 w) (hr : Blk w r 188 #[.bool bad]) : Calls Tryz.prog 140 #[.pointer (some ⟨r, 0, none⟩), .string s] w (NumsR r bad s.data.toList w) := by
  have HR := Lib.hid hr
  have HLW := Lib.hid (fun W (hk : Kept (fun k => k = r) w W) => hL.read hW h0 hk)
  have HL := Lib.hid (hL.below hW)
  have hrs := hr.lt
  clear hr hL hW h0
  by_cases hd : s.data.toList = [45]
  · obtain rfl : s = ⟨#[45]⟩ := Go.WideShapes.bytes_inj (by rw [hd])
    have HV : Hid (∀ l : List Int, (∀ n ∈ l, 0 ≤ n ∧ n ≤ 15) → [45] = numT l → [] = l) := Lib.hid (fun l h0 he => (numT_dash (fun n hn => (h0 n hn).1) he.symm).symm)
    clear hd
    go_enter Tryz.func140, Tryz.ntmps140
    go_wp2_with fail
    go_ret
    exact ⟨_, [], bad, rfl, ⟨none, 0, rfl, by simp, by simp [maxLen], .inl rfl⟩, HR.out, Kept.refl _ _, fun l h0 he => ⟨HV.out l h0 he, rfl⟩⟩
  · have hE : (s.toList == [45]) = false := by rw [dash_eq]; simpa using hd
    have HSP := Lib.hid (split_words 44 s hs w HL.out)
    have HDN : Hid (∀ L b, NumI (wordsC 44 s) bad (wordsC 44 s).length L b → ∀ l : List Int, (∀ n ∈ l, 0 ≤ n ∧ n ≤ 15) → s.data.toList = numT l → L = l ∧ b = bad) := Lib.hid (fun L b h => h.done hd)
    have hfew := wordsC_few 44 s
    have HLE := Lib.hid (wordsC_le 44 s)
    have HZ := Lib.hid (NumI.zero (wordsC 44 s) bad)
    clear hd HL
    generalize wordsC 44 s = D at *
    go_enter Tryz.func140, Tryz.ntmps140
    go_wp2_with fail
    refine HSP.out.mono ?_
    rintro e w1 ⟨rfl, rfl⟩
    have k1 := Blk.new w 9 (D.map Value.string).toArray
    have hb1 : Below w.heap.size w (w.alloc (.cells (D.map Value.string).toArray 9)) := (Below.refl _ _).alloc (Nat.le_refl _) _
    have hr1 := HR.out.alloc (.cells (D.map Value.string).toArray 9)
    generalize hw1 : w.alloc (.cells (D.map Value.string).toArray 9) = w1 at *
    have hs1 := k1.lt
    clear hw1
    have HK1 := Lib.hid k1
    have HR1 := Lib.hid hr1
    have HB1 : Hid (Kept (fun k => k = r) w w1) := Lib.hid (Kept.of_below hb1)
    clear k1 hr1 hb1 HSP HR
    generalize hge : w.heap.size = g at *
    clear hge
    go_wp2_with fail
    go_loopw [5, 13] (fun o i wi => ∃ (m : Nat) (A : Option Addr) (c : Nat) (L : List Int) (b : Bool), i = .int .i64 m ∧ m ≤ D.length ∧ o = .slice A m c ∧ Hid (wi.ownsRow w1.heap.size 3 1 (.slice A m c) m (L.flatMap iR)) ∧ Hid (NumI D bad m L b) ∧ Hid (Blk wi r 188 #[.bool b]) ∧ Hid (Blk wi g 9 (D.map Value.string).toArray) ∧ Hid (Kept (fun k => k = r) w1 wi)) (fun _ i _ => D.length - (intOf i).toNat)
    case atStart => exact ⟨0, none, 0, [], bad, rfl, by omega, rfl, Lib.hid (World.ownsRow_nil _ _ _ _), HZ, HR1, HK1, Lib.hid (Kept.refl _ _)⟩
    case round =>
      clear HZ HR1 HK1
      obtain ⟨m, A, c, L, b, rfl, hm, rfl, HO, HN, HRB, HKB, HKT⟩ := hrel
      by_cases hlt : m < D.length
      · have g0 : wr.cell? ⟨g, m, none⟩ = some (.string D[m]) := by rw [HKB.out.cell]; simp [hlt]
        have lg := HKB.out.lt
        have hwd := HLE.out D[m] (List.getElem_mem hlt)
        have HNE := Lib.hid (fun n b' hn hr => HN.out.next hlt (n := n) (b' := b') hn hr)
        have HC := Lib.hid (rnumber_any r b D[m] (by omega) wr HRB.out (HLW.out wr (HB1.out.trans HKT.out)).1)
        clear HN
        generalize D[m] = x at *
        go_wp2_with fail
        refine HC.out.mono ?_
        rintro e w6 ⟨n, b6, rfl, hn6, hr6, hk6, hv6⟩
        have HN6 := Lib.hid (HNE.out n b6 (by unfold i64B; exact hn6) hv6)
        have HO6 : Hid (w6.ownsRow w1.heap.size 3 1 (.slice A m c) m (L.flatMap iR)) := Lib.hid (own_kept HO.out hk6 fun q hq he => own_blk_ne HO.out HRB.out (by decide) (by rw [hq, he]))
        have HK6 := Lib.hid (HKT.out.trans hk6)
        have hs6 := HK6.out.size
        have HR6 := Lib.hid hr6
        have HG6 := Lib.hid (HKB.out.kept hk6 fun he => Blk.ne_ HKB.out HRB.out (by decide) he)
        clear HO HRB HKB HKT HC HNE hv6 hk6 hr6 g0
        go_wp2_with (at_builtin; refine wpList_app _ intT rfl (.tmp 17) (.tmp 21) rfl w1.heap.size (.slice A m c) m (L.flatMap iR) rfl (by exact HO6.out.alloc _) ⟨w6.heap.size, 0, none⟩ 1 1 [.int .i64 n] rfl rfl (news_new w6 _ _) (by simp [Value.oneCell']) (by omega) (by unfold maxLen; omega) (by omega) (by simp; omega) ?_; intro g9 c9 w9 hown9 hgr9 hat9 hlt9)
        rw [← flat_i] at hown9
        have HO9 := Lib.hid hown9
        have HK9 := Lib.hid ((HK6.out.alloc (.cells #[.int .i64 n] 3)).grown hgr9 fun q hq => .inr (HO6.out.lt q hq).1)
        have HR9 := Lib.hid ((HR6.out.alloc (.cells #[.int .i64 n] 3)).grown hgr9 fun he => own_blk_ne HO6.out HR6.out (by decide) he.symm)
        have HG9 := Lib.hid ((HG6.out.alloc (.cells #[.int .i64 n] 3)).grown hgr9 fun he => own_blk_ne HO6.out HG6.out (by decide) he.symm)
        clear hown9 hgr9 hat9 hlt9 HO6 HK6 HR6 HG6
        go_wp2_with fail
        go_roundw
        case rel => exact ⟨m + 1, some ⟨g9, 0, none⟩, c9, _, _, by go_num, by omega, rfl, HO9, HN6, HR9, HG9, HK9⟩
        case measure => simp [intOf]; omega
      · obtain rfl : m = D.length := by omega
        have HX := Lib.hid (HDN.out L b HN.out)
        have hLl : L.length = D.length := by have := HN.out; unfold NumI at this; exact this.1
        have hLb : ∀ n ∈ L, i64B n := by have := HN.out; unfold NumI at this; exact this.2.1
        have hov := HO.out
        rw [← hLl] at hov
        have HRS : Hid (RS wr (Ty wr 3) 1 RInt [.slice A L.length c] L) := Lib.hid (RS.own hov (fun x _ => by unfold iR; rfl) (fun x hx => by have := hLb x hx; unfold i64B at this; unfold iR; exact ⟨rfl, this⟩) fun q hq => (own_ty hov hq).1)
        rw [hLl] at HRS
        have HKW := Lib.hid (HB1.out.trans HKT.out)
        clear HN HDN HO HKT HKB HLE HLW hLb hov
        go_wp2_with fail
        go_ret
        exact ⟨_, L, b, rfl, HRS.out, HRB.out, HKW.out, HX.out⟩
set_option maxRecDepth 100000 in
set_option maxHeartbeats 4000000 in
theorem rneeds_any (W0 : World) (hL : LayS W0) (r : Nat) (h0 : W0.heap.size ≤ r) (bad : Bool) (s : ByteArray) (hs : s.size ≤ 7000) (w : World) (hW : Below W0.heap.size W0 w) (hr : Blk w r 188 #[.bool bad]) : Calls Tryz.prog 138 #[.pointer (some ⟨r, 0, none⟩), .string s] w (NeedsR r bad s.data.toList w) := by
  have HR := Lib.hid hr
  have HLW := Lib.hid (fun W (hk : Kept (fun k => k = r) w W) => hL.read hW h0 hk)
  have HL := Lib.hid (hL.below hW)
  have hrs := hr.lt
  clear hr hL hW h0
  by_cases hd : s.data.toList = [45]
  · obtain rfl : s = ⟨#[45]⟩ := Go.WideShapes.bytes_inj (by rw [hd])
    have HV : Hid (∀ l : List Need, (∀ n ∈ l, FineN n) → [45] = needsT l → [] = l) := Lib.hid (fun l h0 he => (needsT_dash he.symm).symm)
    clear hd
    go_enter Tryz.func138, Tryz.ntmps138
    go_wp2_with fail
    go_ret
    exact ⟨_, [], bad, rfl, ⟨none, 0, rfl, by simp, by simp [maxLen], .inl rfl⟩, HR.out, Kept.refl _ _, fun l h0 he => ⟨HV.out l h0 he, rfl⟩⟩
  · have hE : (s.toList == [45]) = false := by rw [dash_eq]; simpa using hd
    have HSP := Lib.hid (split_words 44 s hs w HL.out)
    have HDN : Hid (∀ L b, NeedI (wordsC 44 s) bad (wordsC 44 s).length L b → ∀ l : List Need, (∀ n ∈ l, FineN n) → s.data.toList = needsT l → L = l ∧ b = bad) := Lib.hid (fun L b h => h.done hd)
    have hfew := wordsC_few 44 s
    have HLE := Lib.hid (wordsC_le 44 s)
    have HZ := Lib.hid (NeedI.zero (wordsC 44 s) bad)
    clear hd HL
    generalize wordsC 44 s = D at *
    go_enter Tryz.func138, Tryz.ntmps138
    go_wp2_with fail
    refine HSP.out.mono ?_
    rintro e w1 ⟨rfl, rfl⟩
    have k1 := Blk.new w 9 (D.map Value.string).toArray
    have hb1 : Below w.heap.size w (w.alloc (.cells (D.map Value.string).toArray 9)) := (Below.refl _ _).alloc (Nat.le_refl _) _
    have hr1 := HR.out.alloc (.cells (D.map Value.string).toArray 9)
    generalize hw1 : w.alloc (.cells (D.map Value.string).toArray 9) = w1 at *
    have hs1 := k1.lt
    clear hw1
    have HK1 := Lib.hid k1
    have HR1 := Lib.hid hr1
    have HB1 : Hid (Kept (fun k => k = r) w w1) := Lib.hid (Kept.of_below hb1)
    clear k1 hr1 hb1 HSP HR
    generalize hge : w.heap.size = g at *
    clear hge
    go_wp2_with fail
    go_loopw [5, 16] (fun o i wi => ∃ (m : Nat) (A : Option Addr) (c : Nat) (L : List Need) (b : Bool), i = .int .i64 m ∧ m ≤ D.length ∧ o = .slice A m c ∧ Hid (wi.ownsRow w1.heap.size 128 2 (.slice A m c) m (L.flatMap nR)) ∧ Hid (NeedI D bad m L b) ∧ Hid (Blk wi r 188 #[.bool b]) ∧ Hid (Blk wi g 9 (D.map Value.string).toArray) ∧ Hid (Kept (fun k => k = r) w1 wi)) (fun _ i _ => D.length - (intOf i).toNat)
    case atStart => exact ⟨0, none, 0, [], bad, rfl, by omega, rfl, Lib.hid (World.ownsRow_nil _ _ _ _), HZ, HR1, HK1, Lib.hid (Kept.refl _ _)⟩
    case round =>
      clear HZ HR1 HK1
      obtain ⟨m, A, c, L, b, rfl, hm, rfl, HO, HN, HRB, HKB, HKT⟩ := hrel
      by_cases hlt : m < D.length
      · have g0 : wr.cell? ⟨g, m, none⟩ = some (.string D[m]) := by rw [HKB.out.cell]; simp [hlt]
        have lg := HKB.out.lt
        have hwd := HLE.out D[m] (List.getElem_mem hlt)
        have HNE := Lib.hid (fun k n b' hk hn hkd hr => HN.out.next hlt (k := k) (n := n) (b' := b') hk hn hkd hr)
        have HLr := HLW.out wr (HB1.out.trans HKT.out)
        have HCUT : Hid (Calls Tryz.prog 99 #[.string D[m], .string ⟨#[58]⟩] wr (fun e w' => e = .returned (.tuple #[.string ⟨(Lib.cut D[m].data.toList [58]).1.toArray⟩, .string ⟨(Lib.cut D[m].data.toList [58]).2.1.toArray⟩, .bool (Lib.cut D[m].data.toList [58]).2.2]) ∧ Below wr.heap.size wr w')) := Lib.hid (cut_any D[m] ⟨#[58]⟩ (by omega) wr HLr.1.lay)
        have hcl := cut_le D[m].data.toList 58
        rw [size_data] at hcl
        clear HN HLr
        generalize (Lib.cut D[m].data.toList [58]).1 = x1 at *
        generalize (Lib.cut D[m].data.toList [58]).2.1 = x2 at *
        generalize (Lib.cut D[m].data.toList [58]).2.2 = xb at *
        generalize D[m] = x at *
        obtain ⟨hc1, hc2⟩ := hcl
        have hx1 : (⟨x1.toArray⟩ : ByteArray).size ≤ 7000 := by rw [size_list]; omega
        have hx2 : (⟨x2.toArray⟩ : ByteArray).size ≤ 7000 := by rw [size_list]; omega
        go_wp2_with fail
        refine HCUT.out.mono ?_
        rintro e w2 ⟨rfl, hb2⟩
        have HKT2 := Lib.hid (HKT.out.thenB hb2)
        have HO2 := Lib.hid (own_below HO.out hb2)
        have HRB2 := Lib.hid (HRB.out.below hb2 HRB.out.lt)
        have HKB2 := Lib.hid (HKB.out.below hb2 HKB.out.lt)
        have HC := Lib.hid (rnumber_any r b ⟨x2.toArray⟩ hx2 w2 HRB2.out (HLW.out w2 (HB1.out.trans HKT2.out)).1)
        clear HO HRB HKB HKT hb2 HCUT g0 hx2
        go_wp2_with fail
        refine HC.out.mono ?_
        rintro e w6 ⟨n, b6, rfl, hn6, hr6, hk6, hv6⟩
        have HN6 := Lib.hid (HNE.out ⟨x1.toArray⟩ n b6 hx1 (by unfold i64B; exact hn6) rfl hv6)
        have HO6 : Hid (w6.ownsRow w1.heap.size 128 2 (.slice A m c) m (L.flatMap nR)) := Lib.hid (own_kept HO2.out hk6 fun q hq he => own_blk_ne HO2.out HRB2.out (by decide) (by rw [hq, he]))
        have HK6 := Lib.hid (HKT2.out.trans hk6)
        have hs6 := HK6.out.size
        have HR6 := Lib.hid hr6
        have HG6 := Lib.hid (HKB2.out.kept hk6 fun he => Blk.ne_ HKB2.out HRB2.out (by decide) he)
        clear HO2 HRB2 HKB2 HKT2 HC HNE hv6 hk6 hr6
        generalize hkk : (⟨x1.toArray⟩ : ByteArray) = kk at *
        go_wp2_with (at_builtin; refine wpList_app _ ntT rfl (.tmp 26) (.tmp 32) rfl w1.heap.size (.slice A m c) m (L.flatMap nR) rfl (by exact HO6.out.alloc _) ⟨w6.heap.size, 0, none⟩ 1 1 [.string kk, .int .i64 n] rfl rfl (news_new w6 _ _) (by simp [Value.oneCell']) (by omega) (by unfold maxLen; omega) (by omega) (by simp; omega) ?_; intro g9 c9 w9 hown9 hgr9 hat9 hlt9)
        rw [← flat_n] at hown9
        have HO9 := Lib.hid hown9
        have HK9 := Lib.hid ((HK6.out.alloc (.cells #[.string kk, .int .i64 n] 128)).grown hgr9 fun q hq => .inr (HO6.out.lt q hq).1)
        have HR9 := Lib.hid ((HR6.out.alloc (.cells #[.string kk, .int .i64 n] 128)).grown hgr9 fun he => own_blk_ne HO6.out HR6.out (by decide) he.symm)
        have HG9 := Lib.hid ((HG6.out.alloc (.cells #[.string kk, .int .i64 n] 128)).grown hgr9 fun he => own_blk_ne HO6.out HG6.out (by decide) he.symm)
        clear hown9 hgr9 hat9 hlt9 HO6 HK6 HR6 HG6
        go_wp2_with fail
        go_roundw
        case rel => exact ⟨m + 1, some ⟨g9, 0, none⟩, c9, _, _, by go_num, by omega, rfl, HO9, HN6, HR9, HG9, HK9⟩
        case measure => simp [intOf]; omega
      · obtain rfl : m = D.length := by omega
        have HX := Lib.hid (HDN.out L b HN.out)
        have hLl : L.length = D.length := by have := HN.out; unfold NeedI at this; exact this.1
        have hLb : ∀ n ∈ L, n.kind.size ≤ 7000 ∧ i64B n.many := by have := HN.out; unfold NeedI at this; exact this.2.1
        have hov := HO.out
        rw [← hLl] at hov
        have HRS : Hid (RS wr (Ty wr 128) 2 RNeed [.slice A L.length c] L) := Lib.hid (RS.own hov (fun x _ => by unfold nR; rfl) (fun x hx => by have := hLb x hx; unfold i64B at this; unfold nR; exact ⟨rfl, by have := this.1; unfold maxLen; omega, this.2⟩) fun q hq => (own_ty hov hq).1)
        rw [hLl] at HRS
        have HKW := Lib.hid (HB1.out.trans HKT.out)
        clear HN HDN HO HKT HKB HLE HLW hLb hov
        go_wp2_with fail
        go_ret
        exact ⟨_, L, b, rfl, HRS.out, HRB.out, HKW.out, HX.out⟩
end
end Go.Proofs.YticmfflnenoplacGreatDoor
namespace Go.Proofs.YticmfflnenoplacGreatDoor
open Go.RowKit Go.Deep Pop Bi Da Sv Qo
theorem contT6 : ElemT Tryz.prog 43 73 (.agg #[.string ⟨#[]⟩, .int .i64 0, .int .i64 0, .int .i64 0, .int .i64 0, .slice none 0 0]) 6 72 := ⟨Tryz.underlying43, by kernel_rfl, rfl, by omega⟩
theorem givenT2 : ElemT Tryz.prog 67 80 (.agg #[.int .u64 0, .slice none 0 0]) 2 32 := ⟨Tryz.underlying67, by kernel_rfl, rfl, by omega⟩
theorem heldT4 : ElemT Tryz.prog 22 69 (.agg #[.string ⟨#[]⟩, .int .i64 0, .slice none 0 0, .slice none 0 0]) 4 72 := ⟨Tryz.underlying22, by kernel_rfl, rfl, by omega⟩
/-- Not too much. -/
def Lim (c : Nat) (L : List Held) : Prop := L.length ≤ c ∧ ∀ x ∈ L, x.pod.conts.length ≤ c ∧ x.given.length ≤ c
theorem Lim.next {c : Nat} {L : List Held} (h : Lim c L) : Lim (c + 1) L := ⟨by have := h.1; omega, fun x hx => by have := h.2 x hx; omega⟩
theorem Lim.pod {c : Nat} {L : List Held} (h : Lim c L) (n : ByteArray) (p : Int) : Lim (c + 1) (L ++ [⟨⟨n, p, []⟩, []⟩]) := by
  refine ⟨by have := h.1; simp; omega, fun x hx => ?_⟩
  rcases List.mem_append.1 hx with hx | hx
  · have := h.2 x hx; omega
  · rw [List.mem_singleton.1 hx]; simp
theorem Lim.cont {c : Nat} {M : List Held} {n : ByteArray} {p : Int} {cs : List Cont} {gs : List Given} (h : Lim c (M ++ [⟨⟨n, p, cs⟩, gs⟩])) (x : Cont) (g : Given) : Lim (c + 1) (M ++ [⟨⟨n, p, cs ++ [x]⟩, gs ++ [g]⟩]) := by
  have h2 := h.2 ⟨⟨n, p, cs⟩, gs⟩ (by simp)
  refine ⟨by have := h.1; simp at this ⊢; omega, fun y hy => ?_⟩
  rcases List.mem_append.1 hy with hy | hy
  · have := h.2 y (by simp [hy]); omega
  · rw [List.mem_singleton.1 hy]; dsimp only at h2 ⊢; simp; omega
/-- What a line of words comes to. -/
def LineR (B r : Nat) (bad : Bool) (L : List Held) (D : List ByteArray) (w : World) (e : Ending) (w' : World) : Prop :=
  ∃ (v' : Value) (L' : List Held) (b : Bool), e = .returned v' ∧ PW w' B v' L' ∧ Blk w' r 188 #[.bool b] ∧ Below B w w' ∧ (∀ c, Lim c L → Lim (c + 1) L') ∧
    (∀ i : Sv.Item, FineI i → D.map (fun b : ByteArray => b.data.toList) = itemW i → ((∃ c g, i = .cont c g) → L ≠ []) → L' = putI L i ∧ b = bad)
/-- The last one's element stands at M.length; its slices' values (c2, c3) there, and those owned (cv, gv). -/
structure LS (w : World) (B K r g gh cap : Nat) (b : Bool) (D : List ByteArray) (hs : List (List Value)) (M : List Held) (name : ByteArray) (prio : Int) (c2 c3 cv gv : Value) (conts : List Cont) (given : List Given) : Prop where
  row : w.ownsRow B 69 4 (.slice (some ⟨gh, 0, none⟩) (M.length + 1) cap) (M.length + 1) (List.flatten hs ++ [.string name, .int .i64 prio, c2, c3])
  done : Rows 4 (PDone w K) hs M
  co : ∃ rc, w.ownsRow K 73 6 cv conts.length (List.flatten rc) ∧ Rows 6 (ContT w) rc conts
  gi : ∃ rg, w.ownsRow K 80 2 gv given.length (List.flatten rg) ∧ Rows 2 (GivenT w) rg given
  rd : Blk w r 188 #[.bool b]
  wd : Blk w g 9 (D.map Value.string).toArray
  low : B ≤ K
  high : K ≤ w.heap.size
section
variable {w w' : World} {B K r g gh cap : Nat} {b : Bool} {D : List ByteArray} {hs : List (List Value)} {M : List Held} {name : ByteArray} {prio : Int} {c2 c3 cv gv : Value} {conts : List Cont} {given : List Given}
theorem LS.ghb (h : LS w B K r g gh cap b D hs M name prio c2 c3 cv gv conts given) : Ty w 69 gh ∧ B ≤ gh := own_ty h.row rfl
theorem LS.cell (h : LS w B K r g gh cap b D hs M name prio c2 c3 cv gv conts given) : w.cell? ⟨gh, M.length * 4 + 2, none⟩ = some c2 ∧ w.cell? ⟨gh, M.length * 4 + 3, none⟩ = some c3 ∧ (∀ j, w.frozen? ⟨gh, j, none⟩ = false) := by
  have hl : hs.flatten.length = M.length * 4 := by rw [flatten_len h.done.size, h.done.len]
  refine ⟨?_, ?_, h.row.frozenAt⟩
  · rw [h.row.cellAt _ (by omega), List.getElem?_append_right (by omega), hl]
    simp
  · rw [h.row.cellAt _ (by omega), List.getElem?_append_right (by omega), hl]
    simp
/-- A change of what is no data of ours. -/
theorem LS.kept {S : Nat → Prop} (h : LS w B K r g gh cap b D hs M name prio c2 c3 cv gv conts given) (hk : Kept S w w') (hS : ∀ t b, dataT t → Ty w t b → ¬ S b) {b' : Bool} (hr : Blk w' r 188 #[.bool b']) (hg : Blk w' g 9 (D.map Value.string).toArray) : LS w' B K r g gh cap b' D hs M name prio c2 c3 cv gv conts given := by
  obtain ⟨rc, q1, q2⟩ := h.co
  obtain ⟨rg, q3, q4⟩ := h.gi
  exact ⟨own_kept h.row hk fun q hq => hS _ q dtH (own_ty h.row hq).1, h.done.mono fun _ _ _ h => h.kept hk (fun b _ => hS _ b dtC) (fun b _ => hS _ b dtG) (fun b => hS _ b dtN) fun b => hS _ b dtI,
    ⟨rc, own_kept q1 hk fun q hq => hS _ q dtC (own_ty q1 hq).1, q2.mono fun _ _ _ h => h.kept hk fun b => hS _ b dtN⟩, ⟨rg, own_kept q3 hk fun q hq => hS _ q dtG (own_ty q3 hq).1, q4.mono fun _ _ _ h => h.kept hk fun b => hS _ b dtI⟩,
    hr, hg, h.low, Nat.le_trans h.high hk.size⟩
theorem rd_data {w : World} {r b : Nat} {t : TypeId} {cs : Array Value} (h : Blk w r 188 cs) (ht : dataT t) (hb : Ty w t b) : b ≠ r := by
  refine Ty.ne hb ⟨_, h⟩ ?_
  rcases ht with rfl | rfl | rfl | rfl | rfl | rfl <;> decide
theorem LS.read (h : LS w B K r g gh cap b D hs M name prio c2 c3 cv gv conts given) (hk : Kept (fun k => k = r) w w') {b' : Bool} (hr : Blk w' r 188 #[.bool b']) : LS w' B K r g gh cap b' D hs M name prio c2 c3 cv gv conts given :=
  h.kept hk (fun t b ht hb he => rd_data h.rd ht hb he) hr (h.wd.kept hk fun he => h.wd.ne_ h.rd (by decide) he)
theorem LS.alloc (h : LS w B K r g gh cap b D hs M name prio c2 c3 cv gv conts given) (o : Obj) : LS (w.alloc o) B K r g gh cap b D hs M name prio c2 c3 cv gv conts given :=
  h.kept (S := fun _ => False) ((Kept.refl _ _).alloc o) (fun _ _ _ _ h => h) (h.rd.alloc o) (h.wd.alloc o)
theorem LS.drew (h : LS w B K r g gh cap b D hs M name prio c2 c3 cv gv conts given) : LS w.drew B K r g gh cap b D hs M name prio c2 c3 cv gv conts given :=
  h.kept (S := fun _ => False) ((Kept.refl _ _).drew) (fun _ _ _ _ h => h) h.rd.drew h.wd.drew
theorem grown_kept {w w' : World} {row : Option Nat} (hg : w.grownBy w' row) : Kept (fun k => row = some k) w w' := (Kept.refl _ w).grown hg fun _ hk => .inl hk
/-- A container more. -/
theorem LS.appC (h : LS w B K r g gh cap b D hs M name prio c2 c3 cv gv conts given) {rc : List (List Value)} (h1 : w.ownsRow K 73 6 cv conts.length (List.flatten rc)) (h2 : Rows 6 (ContT w) rc conts) (hg : w.grownBy w' cv.ownBlock) {cv' : Value} {cs : List Value} {c : Cont}
    (ho : w'.ownsRow K 73 6 cv' (conts.length + 1) (List.flatten rc ++ cs)) (hcl : cs.length = 6) (hc : ContT w cs c) : LS w' B K r g gh cap b D hs M name prio c2 c3 cv' gv (conts ++ [c]) given := by
  have hk := grown_kept hg
  obtain ⟨rg, q3, q4⟩ := h.gi
  have nt : ∀ t b, t ≠ 73 → Ty w t b → ¬ cv.ownBlock = some b := fun t b ht hb he => Ty.ne hb (own_ty h1 he).1 ht rfl
  refine ⟨own_kept h.row hk fun q hq => nt _ q (by decide) (own_ty h.row hq).1, h.done.mono fun _ _ _ h => h.kept hk (fun b hb _ he => by have := (own_ty h1 he).2; omega) (fun b _ => nt _ b (by decide)) (fun b => nt _ b (by decide)) fun b => nt _ b (by decide),
    ⟨rc ++ [cs], by simpa using ho, (h2.mono fun _ _ _ h => h.kept hk fun b => nt _ b (by decide)).snoc hcl (hc.kept hk fun b => nt _ b (by decide))⟩,
    ⟨rg, own_kept q3 hk fun q hq => nt _ q (by decide) (own_ty q3 hq).1, q4.mono fun _ _ _ h => h.kept hk fun b => nt _ b (by decide)⟩,
    h.rd.kept hk (nt _ r (by decide) ⟨_, h.rd⟩), h.wd.kept hk (nt _ g (by decide) ⟨_, h.wd⟩), h.low, Nat.le_trans h.high hk.size⟩
/-- What was given to one more. -/
theorem LS.appG (h : LS w B K r g gh cap b D hs M name prio c2 c3 cv gv conts given) {rg : List (List Value)} (h1 : w.ownsRow K 80 2 gv given.length (List.flatten rg)) (h2 : Rows 2 (GivenT w) rg given) (hg : w.grownBy w' gv.ownBlock) {gv' : Value} {cs : List Value} {c : Given}
    (ho : w'.ownsRow K 80 2 gv' (given.length + 1) (List.flatten rg ++ cs)) (hcl : cs.length = 2) (hc : GivenT w cs c) : LS w' B K r g gh cap b D hs M name prio c2 c3 cv gv' conts (given ++ [c]) := by
  have hk := grown_kept hg
  obtain ⟨rc, q3, q4⟩ := h.co
  have nt : ∀ t b, t ≠ 80 → Ty w t b → ¬ gv.ownBlock = some b := fun t b ht hb he => Ty.ne hb (own_ty h1 he).1 ht rfl
  refine ⟨own_kept h.row hk fun q hq => nt _ q (by decide) (own_ty h.row hq).1, h.done.mono fun _ _ _ h => h.kept hk (fun b _ => nt _ b (by decide)) (fun b hb _ he => by have := (own_ty h1 he).2; omega) (fun b => nt _ b (by decide)) fun b => nt _ b (by decide),
    ⟨rc, own_kept q3 hk fun q hq => nt _ q (by decide) (own_ty q3 hq).1, q4.mono fun _ _ _ h => h.kept hk fun b => nt _ b (by decide)⟩,
    ⟨rg ++ [cs], by simpa using ho, (h2.mono fun _ _ _ h => h.kept hk fun b => nt _ b (by decide)).snoc hcl (hc.kept hk fun b => nt _ b (by decide))⟩,
    h.rd.kept hk (nt _ r (by decide) ⟨_, h.rd⟩), h.wd.kept hk (nt _ g (by decide) ⟨_, h.wd⟩), h.low, Nat.le_trans h.high hk.size⟩
theorem set_last2 (xs : List Value) (n : Nat) (hn : xs.length = n) (a b c d u : Value) : (xs ++ [a, b, c, d]).set (n + 2) u = xs ++ [a, b, u, d] := by
  subst hn
  rw [List.set_append_right _ _ (by omega)]
  simp
theorem set_last3 (xs : List Value) (n : Nat) (hn : xs.length = n) (a b c d u : Value) : (xs ++ [a, b, c, d]).set (n + 3) u = xs ++ [a, b, c, u] := by
  subst hn
  rw [List.set_append_right _ _ (by omega)]
  simp
theorem LS.set_ (h : LS w B K r g gh cap b D hs M name prio c2 c3 cv gv conts given) (j : Nat) (u c2' c3' : Value) (he : (List.flatten hs ++ [.string name, .int .i64 prio, c2, c3]).set j u = List.flatten hs ++ [.string name, .int .i64 prio, c2', c3']) : LS (w.setCell ⟨gh, j, none⟩ u) B K r g gh cap b D hs M name prio c2' c3' cv gv conts given := by
  have hk : Kept (fun k => k = gh) w (w.setCell ⟨gh, j, none⟩ u) := (Kept.refl (fun k => k = gh) w).setCell (p := ⟨gh, j, none⟩) (.inl rfl) u
  obtain ⟨rc, q1, q2⟩ := h.co
  obtain ⟨rg, q3, q4⟩ := h.gi
  have hH := h.ghb.1
  have nt : ∀ t b, t ≠ 69 → Ty w t b → ¬ b = gh := fun t b ht hb he => Ty.ne hb hH ht he
  refine ⟨?_, h.done.mono fun _ _ _ h => h.kept hk (fun b _ => nt _ b (by decide)) (fun b _ => nt _ b (by decide)) (fun b => nt _ b (by decide)) fun b => nt _ b (by decide),
    ⟨rc, own_kept q1 hk fun q hq => nt _ q (by decide) (own_ty q1 hq).1, q2.mono fun _ _ _ h => h.kept hk fun b => nt _ b (by decide)⟩,
    ⟨rg, own_kept q3 hk fun q hq => nt _ q (by decide) (own_ty q3 hq).1, q4.mono fun _ _ _ h => h.kept hk fun b => nt _ b (by decide)⟩,
    h.rd.kept hk (nt _ r (by decide) ⟨_, h.rd⟩), h.wd.kept hk (nt _ g (by decide) ⟨_, h.wd⟩), h.low, Nat.le_trans h.high hk.size⟩
  rw [← he]
  exact (h.row.stored j u).1
theorem LS.setC (h : LS w B K r g gh cap b D hs M name prio c2 c3 cv gv conts given) (u : Value) : LS (w.setCell ⟨gh, M.length * 4 + 2, none⟩ u) B K r g gh cap b D hs M name prio u c3 cv gv conts given :=
  h.set_ _ _ _ _ (set_last2 _ _ (by rw [flatten_len h.done.size, h.done.len]) _ _ _ _ _)
theorem LS.setG (h : LS w B K r g gh cap b D hs M name prio c2 c3 cv gv conts given) (u : Value) : LS (w.setCell ⟨gh, M.length * 4 + 3, none⟩ u) B K r g gh cap b D hs M name prio c2 u cv gv conts given :=
  h.set_ _ _ _ _ (set_last3 _ _ (by rw [flatten_len h.done.size, h.done.len]) _ _ _ _ _)
/-- What lies ahead of B was not touched. -/
theorem LS.pw (h : LS w B K r g gh cap b D hs M name prio cv gv cv gv conts given) (hn : name.size ≤ maxLen) (hp : -9223372036854775808 ≤ prio ∧ prio ≤ 9223372036854775807) : PW w B (.slice (some ⟨gh, 0, none⟩) (M.length + 1) cap) (M ++ [⟨⟨name, prio, conts⟩, given⟩]) := by
  obtain ⟨rc, q1, q2⟩ := h.co
  obtain ⟨rg, q3, q4⟩ := h.gi
  exact .inr ⟨K, M, _, rfl, ⟨hs, _, h.row, h.done, rfl, ⟨cv, gv, rc, rg, rfl, hn, hp, q1, q2, q3, q4⟩⟩, h.low, h.high⟩
end
theorem LS.of {w : World} {B r g : Nat} {b : Bool} {D : List ByteArray} {v : Value} {L : List Held} (h : PW w B v L) (hne : L ≠ []) (hr : Blk w r 188 #[.bool b]) (hg : Blk w g 9 (D.map Value.string).toArray) :
    ∃ K gh cap hs M name prio cv gv conts given, v = .slice (some ⟨gh, 0, none⟩) (M.length + 1) cap ∧ M.length + 1 ≤ cap ∧ cap ≤ maxLen ∧ L = M ++ [⟨⟨name, prio, conts⟩, given⟩] ∧ name.size ≤ maxLen ∧ (-9223372036854775808 ≤ prio ∧ prio ≤ 9223372036854775807) ∧ LS w B K r g gh cap b D hs M name prio cv gv cv gv conts given := by
  rcases h with ⟨h0, _⟩ | ⟨K, M, x, hL, h⟩
  · exact absurd h0 hne
  · obtain ⟨hs, rr, h1, h2, h3, ⟨cv, gv, rc, rg, e, n1, n2, q1, q2, q3, q4⟩⟩ := h.ex
    obtain ⟨A, cap, rfl, c1, c2, c3⟩ := own_form h1
    obtain ⟨gh, rfl, _, _⟩ := c3 (by omega)
    subst e
    exact ⟨K, gh, cap, hs, M, x.pod.name, x.pod.prio, cv, gv, x.pod.conts, x.given, rfl, c1, c2, hL, n1, n2, ⟨h1, h2, ⟨rc, q1, q2⟩, ⟨rg, q3, q4⟩, hr, hg, h.low, h.high⟩⟩
theorem PW.rows {w : World} {B : Nat} {v : Value} {l : List Held} (h : PW w B v l) : ∃ hs, w.ownsRow B 69 4 v l.length (List.flatten hs) ∧ Rows 4 (HeldT w) hs l := by
  rcases h with ⟨rfl, A, c, hc, rfl, h⟩ | ⟨K, M, x, rfl, h⟩
  · exact ⟨[], h, Rows.nil _ _⟩
  · obtain ⟨hs, r, h1, h2, h3, h4⟩ := h.ex
    exact ⟨hs ++ [r], by simpa using h1, (h2.mono fun _ _ _ h => PDone.toT h).snoc h3 h4.toT⟩
theorem HeldT.keptH {w w' : World} {S : Nat → Prop} {cs : List Value} {x : Held} (h : HeldT w cs x) (hk : Kept S w w') (hS : ∀ t b, (t = 73 ∨ t = 80 ∨ t = 128 ∨ t = 3) → Ty w t b → ¬ S b) : HeldT w' cs x :=
  RHeldS.move h (fun b hb => hk.block b hb.lt (hS _ b (.inl rfl) hb)) (fun b hb => hb.kept hk (hS _ b (.inl rfl) hb)) (fun b hb => hk.block b hb.lt (hS _ b (.inr (.inl rfl)) hb)) (fun b hb => hb.kept hk (hS _ b (.inr (.inl rfl)) hb))
    (fun b hb => hk.block b hb.lt (hS _ b (.inr (.inr (.inl rfl))) hb)) (fun b hb => hb.kept hk (hS _ b (.inr (.inr (.inl rfl))) hb)) (fun b hb => hk.block b hb.lt (hS _ b (.inr (.inr (.inr rfl))) hb)) fun b hb => hb.kept hk (hS _ b (.inr (.inr (.inr rfl))) hb)
/-- A pod more. -/
theorem PW.snoc {w w' : World} {B : Nat} {v v' : Value} {l : List Held} {hs : List (List Value)} (h1 : w.ownsRow B 69 4 v l.length (List.flatten hs)) (h2 : Rows 4 (HeldT w) hs l) (hB : B ≤ w.heap.size) (hg : w.grownBy w' v.ownBlock) {n : ByteArray} {p : Int} (hn : n.size ≤ maxLen) (hp : -9223372036854775808 ≤ p ∧ p ≤ 9223372036854775807)
    (ho : w'.ownsRow B 69 4 v' (l.length + 1) (List.flatten hs ++ [.string n, .int .i64 p, .slice none 0 0, .slice none 0 0])) : PW w' B v' (l ++ [⟨⟨n, p, []⟩, []⟩]) := by
  have hk := grown_kept hg
  refine .inr ⟨w'.heap.size, l, _, rfl, ⟨hs, _, ho, h2.mono fun _ _ _ h => HeldT.toD (h.keptH hk fun t b ht hb he => ?_), rfl, ⟨_, _, [], [], rfl, hn, hp, World.ownsRow_nil _ _ _ _, Rows.nil _ _, World.ownsRow_nil _ _ _ _, Rows.nil _ _⟩⟩, Nat.le_trans hB hk.size, Nat.le_refl _⟩
  refine Ty.ne hb (own_ty h1 he).1 ?_ rfl
  rcases ht with rfl | rfl | rfl | rfl <;> decide
theorem item_pod {i : Sv.Item} {D : List ByteArray} (h : D.map (fun b : ByteArray => b.data.toList) = itemW i) : (D.length = 3 ∧ D.head? = some ⟨#[112, 111, 100]⟩ ∧ ∃ n p, i = .pod n p) ∨ (D.length = 9 ∧ D.head? = some ⟨#[99, 111, 110, 116]⟩ ∧ ∃ c g, i = .cont c g) := by
  have hl : D.length = (itemW i).length := by simpa using congrArg List.length h
  have hd : D.head?.map (fun b : ByteArray => b.data.toList) = (itemW i).head? := by rw [← h, List.head?_map]
  cases i with
  | pod n p =>
    refine .inl ⟨hl, ?_, n, p, rfl⟩
    cases D with
    | nil => simp at hd; simp [itemW, podW] at hd
    | cons d D =>
      simp only [List.head?_cons, Option.map_some, itemW, podW, Option.some.injEq] at hd ⊢
      exact toB_eq hd
  | cont c g =>
    refine .inr ⟨hl, ?_, c, g, rfl⟩
    cases D with
    | nil => simp at hd; simp [itemW, contW] at hd
    | cons d D =>
      simp only [List.head?_cons, Option.map_some, itemW, contW, Option.some.injEq] at hd ⊢
      exact toB_eq hd
theorem pod_spec {L : List Held} {d1 d2 : ByteArray} {n : Int} {b bad : Bool} (hv : ∀ m : Int, 0 ≤ m → m ≤ 1125899906842624 → d2.data.toList = Lib.itoa m → n = m ∧ b = bad) :
    ∀ i : Sv.Item, FineI i → [(⟨#[112, 111, 100]⟩ : ByteArray), d1, d2].map (fun b : ByteArray => b.data.toList) = itemW i → ((∃ c g, i = .cont c g) → L ≠ []) → L ++ [⟨⟨d1, n, []⟩, []⟩] = putI L i ∧ b = bad := by
  intro i hf he _
  cases i with
  | cont c g => simp [itemW, contW] at he
  | pod m p =>
    simp only [List.map_cons, List.map_nil, itemW, podW, List.cons.injEq, and_true] at he
    have e1 : d1 = m := by rw [← toB_of d1, ← toB_of m, he.2.1]
    obtain ⟨e2, e3⟩ := hv p hf.2.1 (by have := hf.2.2; omega) he.2.2
    exact ⟨by rw [e1, e2]; rfl, e3⟩
theorem cont_spec {M : List Held} {name : ByteArray} {prio : Int} {conts : List Cont} {given : List Given} {d1 d2 d3 d4 d5 d6 d7 d8 : ByteArray} {n2 n3 n4 n5 : Int} {nd : List Need} {x : Nat} {gd : List Int} {b b2 b3 b4 b5 b6 b7 bad : Bool}
    (h2 : ∀ m : Int, 0 ≤ m → m ≤ 1125899906842624 → d2.data.toList = Lib.itoa m → n2 = m ∧ b2 = bad) (h3 : ∀ m : Int, 0 ≤ m → m ≤ 1125899906842624 → d3.data.toList = Lib.itoa m → n3 = m ∧ b3 = b2)
    (h4 : ∀ m : Int, 0 ≤ m → m ≤ 1125899906842624 → d4.data.toList = Lib.itoa m → n4 = m ∧ b4 = b3) (h5 : ∀ m : Int, 0 ≤ m → m ≤ 1125899906842624 → d5.data.toList = Lib.itoa m → n5 = m ∧ b5 = b4)
    (h6 : ∀ l : List Need, (∀ n ∈ l, FineN n) → d6.data.toList = needsT l → nd = l ∧ b6 = b5) (h7 : ∀ q : Nat, q < 18446744073709551616 → d7.data.toList = setT q → x = q ∧ b7 = b6) (h8 : ∀ l : List Int, (∀ n ∈ l, 0 ≤ n ∧ n ≤ 15) → d8.data.toList = numT l → gd = l ∧ b = b7) :
    ∀ i : Sv.Item, FineI i → [(⟨#[99, 111, 110, 116]⟩ : ByteArray), d1, d2, d3, d4, d5, d6, d7, d8].map (fun b : ByteArray => b.data.toList) = itemW i → ((∃ c g, i = .cont c g) → M ++ [⟨⟨name, prio, conts⟩, given⟩] ≠ []) →
      M ++ [⟨⟨name, prio, conts ++ [⟨d1, n2, n3, n4, n5, nd⟩]⟩, given ++ [⟨x, gd⟩]⟩] = putI (M ++ [⟨⟨name, prio, conts⟩, given⟩]) i ∧ b = bad := by
  intro i hf he _
  cases i with
  | pod n p => simp [itemW, podW] at he
  | cont c g =>
    simp only [List.map_cons, List.map_nil, itemW, contW, List.cons.injEq, and_true] at he
    obtain ⟨_, w1, w2, w3, w4, w5, w6, w7, w8⟩ := he
    obtain ⟨cn, a2, a3, a4, a5, ad⟩ := c
    obtain ⟨gx, gl⟩ := g
    obtain ⟨hc, hg, hx⟩ := hf
    have e1 : d1 = cn := by rw [← toB_of d1, ← toB_of cn, w1]
    have q2 := hc.askM; have q3 := hc.askB; have q4 := hc.capM; have q5 := hc.capB
    dsimp only at *
    obtain ⟨e2, f2⟩ := h2 a2 q2.1 (by omega) w2
    obtain ⟨e3, f3⟩ := h3 a3 q3.1 (by omega) w3
    obtain ⟨e4, f4⟩ := h4 a4 q4.1 (by omega) w4
    obtain ⟨e5, f5⟩ := h5 a5 q5.1 (by omega) w5
    obtain ⟨e6, f6⟩ := h6 ad hc.devs w6
    obtain ⟨e7, f7⟩ := h7 gx hx w7
    obtain ⟨e8, f8⟩ := h8 gl hg.devs w8
    subst e1 e2 e3 e4 e5 e6 e7 e8
    refine ⟨by simp [putI, addC], by rw [f8, f7, f6, f5, f4, f3, f2]⟩
section
attribute [local irreducible] numT needsT wordsC i64B Lib.cut contW podW putI itemW FineI
set_option maxRecDepth 100000 in
set_option maxHeartbeats 2000000 in
/-- A line that none of the two forms fits. -/
theorem rline_bad (B r g : Nat) (bad : Bool) (v : Value) (L : List Held) (D : List ByteArray) (w : World) (hr : Blk w r 188 #[.bool bad]) (hB : B ≤ r) (hP : PW w B v L) (hg : Blk w g 9 (D.map Value.string).toArray) (hD : D.length ≤ 10000)
    (hp : ¬ (D.length = 3 ∧ D.head? = some ⟨#[112, 111, 100]⟩)) (hc : ¬ (D.length = 9 ∧ D.head? = some ⟨#[99, 111, 110, 116]⟩ ∧ L ≠ [])) :
    Calls Tryz.prog 100 #[.pointer (some ⟨r, 0, none⟩), v, .slice (some ⟨g, 0, none⟩) D.length D.length] w (LineR B r bad L D w) := by
  have HX : Hid (∀ i : Sv.Item, FineI i → D.map (fun b : ByteArray => b.data.toList) = itemW i → ((∃ c g, i = .cont c g) → L ≠ []) → False) := Lib.hid (fun i _ h hl => by
    rcases item_pod h with ⟨h1, h2, _⟩ | ⟨h1, h2, h3⟩
    · exact hp ⟨h1, h2⟩
    · exact hc ⟨h1, h2, hl h3⟩)
  obtain ⟨hs, hrow, _⟩ := hP.rows
  obtain ⟨A, cap, rfl, hcap, hmax, _⟩ := own_form hrow
  have HP := Lib.hid hP
  have HR := Lib.hid hr
  have hc0 := hg.cells
  have hl0 := hg.lt
  have er := hr.cells
  have zr := hr.lt
  have fr := hr.frozens
  have HQ : Hid (∀ e, e = Ending.returned (.slice A L.length cap) → LineR B r bad L D w e (w.setCell ⟨r, 0, none⟩ (.bool true))) := Lib.hid (fun e he => by
    obtain ⟨q1, q2⟩ := rd_set hr rfl (Kept.refl _ w) hr true
    exact ⟨_, L, true, he, hP.kept q2 fun t b ht hb he => rd_data hr ht hb he, q1, q2.below (by have := hr.lt; omega) fun k hk he => by omega, fun c h => h.next, fun i h1 h2 h3 => (HX.out i h1 h2 h3).elim⟩)
  clear hP hr hB hrow HX HP HR hg
  unfold maxLen at hmax
  by_cases h3 : D.length = 3
  · have hw0 : ∃ d, D.head? = some d ∧ w.cell? ⟨g, 0, none⟩ = some (.string d) ∧ (d.toList == [112, 111, 100]) = false := by
      cases D with
      | nil => simp at h3
      | cons d D =>
        refine ⟨d, rfl, by rw [hc0]; simp, ?_⟩
        rw [data_list, beq_eq_false_iff_ne]
        intro he
        exact hp ⟨h3, by rw [List.head?_cons, toB_eq he]; rfl⟩
    obtain ⟨d, _, g0, hE⟩ := hw0
    rw [h3]
    clear hc0 hp hc h3
    go_enter Tryz.func100, Tryz.ntmps100
    go_wp2_with fail
    go_ret
    exact HQ.out _ rfl
  · by_cases h9 : D.length = 9
    · have hw0 : ∃ d, D.head? = some d ∧ w.cell? ⟨g, 0, none⟩ = some (.string d) := by
        cases D with
        | nil => simp at h9
        | cons d D => exact ⟨d, rfl, by rw [hc0]; simp⟩
      obtain ⟨d, hd, g0⟩ := hw0
      rw [h9]
      cases hE : (d.toList == [99, 111, 110, 116])
      · clear hc0 hp hc h3
        go_enter Tryz.func100, Tryz.ntmps100
        go_wp2_with fail
        go_ret
        exact HQ.out _ rfl
      · have hL : L.length = 0 := by
          rw [data_list, beq_iff_eq] at hE
          rcases Nat.eq_zero_or_pos L.length with h | h
          · exact h
          · exact absurd ⟨h9, by rw [hd, toB_eq hE]; rfl, by rintro rfl; simp at h⟩ hc
        rw [hL] at HQ ⊢
        clear hc0 hp hc h3
        go_enter Tryz.func100, Tryz.ntmps100
        go_wp2_with fail
        go_ret
        exact HQ.out _ rfl
    · have i3 : ¬ (D.length : Int) = 3 := by omega
      have i9 : ¬ (D.length : Int) = 9 := by omega
      clear hc0 hp hc h3 h9
      go_enter Tryz.func100, Tryz.ntmps100
      go_wp2_with fail
      go_ret
      exact HQ.out _ rfl
end
end Go.Proofs.YticmfflnenoplacGreatDoor
namespace Go.Proofs.YticmfflnenoplacGreatDoor
open Go.RowKit Go.Deep Pop Bi Da Sv Qo
section
attribute [local irreducible] numT needsT wordsC i64B Lib.cut contW podW putI itemW FineI
set_option maxRecDepth 100000 in
set_option maxHeartbeats 4000000 in
/-- A pod's line. -/
theorem rline_pod (W0 : World) (hL : LayS W0) (B r g : Nat) (h0 : W0.heap.size ≤ r) (bad : Bool) (v : Value) (L : List Held) (d1 d2 : ByteArray) (w : World) (hW : Below W0.heap.size W0 w) (hr : Blk w r 188 #[.bool bad]) (hB : B ≤ r) (hP : PW w B v L) (hg : Blk w g 9 #[.string ⟨#[112, 111, 100]⟩, .string d1, .string d2])
    (h1 : d1.size ≤ 7000) (h2 : d2.size ≤ 7000) (hLl : L.length ≤ 10000) :
    Calls Tryz.prog 100 #[.pointer (some ⟨r, 0, none⟩), v, .slice (some ⟨g, 0, none⟩) 3 3] w (LineR B r bad L [⟨#[112, 111, 100]⟩, d1, d2] w) := by
  have HN := Lib.hid (fun W (hk : Kept (fun k => k = r) w W) (hrW : Blk W r 188 #[.bool bad]) => rnumber_any r bad d2 h2 W hrW (hL.read hW h0 hk).1)
  have HBr : Hid (B ≤ w.heap.size) := Lib.hid (by have := hr.lt; omega)
  obtain ⟨hs, hrow, hrows⟩ := hP.rows
  have hform := own_form hrow
  obtain ⟨A, cap, rfl, hcap, hmax, _⟩ := hform
  have HROW := Lib.hid hrow
  have HROWS := Lib.hid hrows
  have HR := Lib.hid hr
  have HG := Lib.hid hg
  have HBB := Lib.hid hB
  have hc0 := hg.cells
  have hl0 := hg.lt
  have zr := hr.lt
  unfold maxLen at hmax
  clear hP hrow hrows hr hL hW h0 hB
  generalize hlnE : L.length = ln at *
  have HLN := Lib.hid hlnE
  clear hlnE
  go_enter Tryz.func100, Tryz.ntmps100
  go_upto_region 3 with fail
  have hI : Blk w.drew g 9 #[.string ⟨#[112, 111, 100]⟩, .string d1, .string d2] := hg.drew
  clear hc0 hg
  refine Flo.region 12 [(0, true), (1, true), (2, true), (3, true), (4, true), (5, true), (6, true), (7, true), (8, false), (9, true), (10, true), (11, false)] (fun v => Blk v g 9 #[.string ⟨#[112, 111, 100]⟩, .string d1, .string d2]) (by kernel_rfl) (by kernel_rfl) rfl hI ?_
  simp only [List.drop_succ_cons, List.drop_zero]
  iterate 8 (apply Flo.op rfl (hI := hI); (· intro v hv K hK; have hc := Blk.cells hv; have hl := Blk.lt hv; clear hv; go_wp2_with fail; all_goals first | exact Flo.noUndef (by with_reducible assumption) | exact hK); (· rfl))
  refine Flo.seq rfl fun K hK => ?_
  go_wp2_with fail
  refine (HN.out _ (Kept.refl _ _).drew HR.out.drew).mono ?_
  rintro e w6 ⟨n, b6, rfl, hn6, hr6, hk6, hv6⟩
  go_wp2_with fail
  have hk6' : Kept (fun k => k = r) w w6 := ((Kept.refl _ w).drew).trans hk6
  have hI6 : Blk w6 g 9 #[.string ⟨#[112, 111, 100]⟩, .string d1, .string d2] := HG.out.kept hk6' fun he => HG.out.ne_ HR.out (by decide) he
  refine hK _ _ hI6 ?_
  iterate 2 (apply Flo.op rfl (hI := hI6); (· intro v hv K hK; have hc := Blk.cells hv; have hl := Blk.lt hv; clear hv; go_wp2_with fail; all_goals first | exact Flo.noUndef (by with_reducible assumption) | exact hK); (· rfl))
  have HO6 : Hid (w6.ownsRow B 69 4 (.slice A ln cap) ln (List.flatten hs)) := Lib.hid (own_kept HROW.out hk6' fun q hq he => own_blk_ne HROW.out HR.out (by decide) (by rw [hq, he]))
  have HT6 : Hid (Rows 4 (HeldT w6) hs L) := Lib.hid (HROWS.out.mono fun _ _ _ h => h.keptH hk6' fun t b ht hb he => rd_data HR.out (by rcases ht with rfl | rfl | rfl | rfl; exact dtC; exact dtG; exact dtN; exact dtI) hb he)
  have HK6 := Lib.hid hk6'
  have HR6 := Lib.hid hr6
  have hs6 := hk6'.size
  have HBr6 : Hid (B ≤ w6.heap.size) := Lib.hid (Nat.le_trans HBr.out hs6)
  have hB6 := HBr6.out
  clear hk6 hk6' hr6 HN HROWS HROW hK
  refine Flo.seq rfl fun K hK => ?_
  go_wp2_with fail
  have hI7 := hI6.alloc (.cells #[.string d1, .int .i64 n, .slice none 0 0, .slice none 0 0] 69)
  refine hK _ _ hI7 ?_
  clear hK hI7 hI6 hI
  refine Flo.tail fun K hK => ?_
  go_wp2_with (at_builtin; refine wpList_app _ heldT4 rfl (.tmp 22) (.tmp 33) rfl B (.slice A ln cap) ln (List.flatten hs) rfl (by exact HO6.out.alloc _) ⟨w6.heap.size, 0, none⟩ 1 1 [.string d1, .int .i64 n, .slice none 0 0, .slice none 0 0] rfl rfl (news_new w6 _ _) (by simp [Value.oneCell']) (by omega) (by unfold maxLen; omega) (by omega) (by simp; omega) ?_; intro g9 c9 w9 hown9 hgr9 hat9 hlt9)
  have hb8 : Below B w (w6.alloc (.cells #[.string d1, .int .i64 n, .slice none 0 0, .slice none 0 0] 69)) := (HK6.out.alloc _).below HBr.out fun k hk he => by have := HBB.out; omega
  have HB9 := Lib.hid (hb8.grown hgr9 (Nat.le_trans HBr.out hb8.size) fun q hq => (HO6.out.lt q hq).1)
  have HR9 := Lib.hid ((HR6.out.alloc (.cells #[.string d1, .int .i64 n, .slice none 0 0, .slice none 0 0] 69)).grown hgr9 fun he => own_blk_ne HO6.out HR6.out (by decide) he.symm)
  have HP9 : Hid (PW w9 B (.slice (some ⟨g9, 0, none⟩) (ln + 1) c9) (L ++ [⟨⟨d1, n, []⟩, []⟩])) := Lib.hid (by
    have hO8 := HO6.out.alloc (.cells #[.string d1, .int .i64 n, .slice none 0 0, .slice none 0 0] 69)
    have hlnE := HLN.out
    subst hlnE
    exact PW.snoc hO8 (HT6.out.mono fun _ _ _ h => HeldT.dat h (Dat.of_below ((Below.refl _ _).alloc (Nat.le_refl _) _))) (by simp; omega) hgr9 (by unfold maxLen; omega) hn6 hown9)
  clear hown9 hgr9 hat9 hlt9 hb8 HO6 HT6 HK6 HR6
  go_wp2_with fail
  go_ret
  exact ⟨_, _, b6, rfl, HP9.out, HR9.out, HB9.out, fun c h => h.pod _ _, pod_spec hv6⟩
end
end Go.Proofs.YticmfflnenoplacGreatDoor
namespace Go.Proofs.YticmfflnenoplacGreatDoor.Flo
def closedB (md : Region.Mode) (ops : Array Oper) (L : Array Bool) : Bool :=
  decide (L.size = ops.size) && (List.range ops.size).all fun j => !L.getD j false || match ops[j]? with
    | some o => o.after.toList.all fun e => !Region.binds md e || L.getD e.on false
    | none => true
theorem closed_of {md : Region.Mode} {ops : Array Oper} {L : Array Bool} (h : closedB md ops L = true) : Closed md ops L := by
  simp only [closedB, Bool.and_eq_true, decide_eq_true_eq] at h
  refine ⟨h.1, fun j oj hj hl e he hb => ?_⟩
  have hjs : j < ops.size := (Array.getElem?_eq_some_iff.1 hj).1
  have h1 := List.all_eq_true.1 h.2 j (List.mem_range.2 hjs)
  rw [hl, hj] at h1
  simp only [Bool.not_true, Bool.false_or] at h1
  have h2 := List.all_eq_true.1 h1 e (by simpa using he)
  rw [hb] at h2
  simpa using h2
def brFB (ops : Array Oper) (hd : List Nat) (n : Nat) (L L' : Array Bool) : Bool :=
  Region.noSelect ops && ancB .any ops (Region.before ops) && floats n ops (Region.before ops) (hd.map fun k => (k, true)) && walkL .any ops hd L' L && closedB .any ops L
section
variable {P : Program} {I : World → Prop} {a : Act} {w : World} {ops : Array Oper} {Q : Act → World → Prop} {n g : Nat} {L : Array Bool}
/-- Floats, where some things are listed already. -/
theorem brF (hd : List Nat) (L1 : Array Bool) (hB : brFB ops hd n L1 L = true) (hI : I w) (h : wpFs P ops I (anyI P .any ops I n Q g L) hd a w) : anyI P .any ops I n Q (hd.length + g) L1 a w := by
  simp only [brFB, Bool.and_eq_true] at hB
  obtain ⟨⟨⟨⟨hsel, hanc⟩, hfl⟩, hw⟩, hc⟩ := hB
  exact anyI_floats hsel hanc hd L1 a w hfl hw (closed_of hc) hI h
end
end Go.Proofs.YticmfflnenoplacGreatDoor.Flo
namespace Go.Proofs.YticmfflnenoplacGreatDoor
open Go.RowKit Go.Deep Pop Bi Da Sv Qo
theorem needs_kept {w w' : World} {S : Nat → Prop} {v : Value} {l : List Need} (h : RS w (Ty w 128) 2 RNeed [v] l) (hk : Kept S w w') (hS : ∀ b, Ty w 128 b → ¬ S b) : RS w' (Ty w' 128) 2 RNeed [v] l :=
  h.move (fun b hb => hk.block b hb.lt (hS b hb)) (fun b hb => hb.kept hk (hS b hb)) fun _ _ _ h => h
theorem needs_alloc {w : World} {v : Value} {l : List Need} (h : RS w (Ty w 128) 2 RNeed [v] l) (o : Obj) : RS (w.alloc o) (Ty (w.alloc o) 128) 2 RNeed [v] l :=
  needs_kept h (S := fun _ => False) ((Kept.refl _ _).alloc o) fun _ _ h => h
/-- What the words of a container, read, are. -/
def ContSp (bad : Bool) (d2 d3 d4 d5 d6 : ByteArray) (n2 n3 n4 n5 : Int) (nd : List Need) (b6 : Bool) : Prop :=
  ∃ b2 b3 b4 b5 : Bool, (∀ m : Int, 0 ≤ m → m ≤ 1125899906842624 → d2.data.toList = Lib.itoa m → n2 = m ∧ b2 = bad) ∧ (∀ m : Int, 0 ≤ m → m ≤ 1125899906842624 → d3.data.toList = Lib.itoa m → n3 = m ∧ b3 = b2) ∧
    (∀ m : Int, 0 ≤ m → m ≤ 1125899906842624 → d4.data.toList = Lib.itoa m → n4 = m ∧ b4 = b3) ∧ (∀ m : Int, 0 ≤ m → m ≤ 1125899906842624 → d5.data.toList = Lib.itoa m → n5 = m ∧ b5 = b4) ∧ (∀ l : List Need, (∀ n ∈ l, FineN n) → d6.data.toList = needsT l → nd = l ∧ b6 = b5)
theorem ContSp.of {bad b2 b3 b4 b5 b6 : Bool} {d2 d3 d4 d5 d6 : ByteArray} {n2 n3 n4 n5 : Int} {nd : List Need} (h2 : ∀ m : Int, 0 ≤ m → m ≤ 1125899906842624 → d2.data.toList = Lib.itoa m → n2 = m ∧ b2 = bad) (h3 : ∀ m : Int, 0 ≤ m → m ≤ 1125899906842624 → d3.data.toList = Lib.itoa m → n3 = m ∧ b3 = b2)
    (h4 : ∀ m : Int, 0 ≤ m → m ≤ 1125899906842624 → d4.data.toList = Lib.itoa m → n4 = m ∧ b4 = b3) (h5 : ∀ m : Int, 0 ≤ m → m ≤ 1125899906842624 → d5.data.toList = Lib.itoa m → n5 = m ∧ b5 = b4) (h6 : ∀ l : List Need, (∀ n ∈ l, FineN n) → d6.data.toList = needsT l → nd = l ∧ b6 = b5) : ContSp bad d2 d3 d4 d5 d6 n2 n3 n4 n5 nd b6 := ⟨b2, b3, b4, b5, h2, h3, h4, h5, h6⟩
theorem cont_spec2 {M : List Held} {name : ByteArray} {prio : Int} {conts : List Cont} {given : List Given} {d1 d2 d3 d4 d5 d6 d7 d8 : ByteArray} {n2 n3 n4 n5 : Int} {nd : List Need} {x : Nat} {gd : List Int} {b b6 b7 bad : Bool}
    (h : ContSp bad d2 d3 d4 d5 d6 n2 n3 n4 n5 nd b6) (h7 : ∀ q : Nat, q < 18446744073709551616 → d7.data.toList = setT q → x = q ∧ b7 = b6) (h8 : ∀ l : List Int, (∀ n ∈ l, 0 ≤ n ∧ n ≤ 15) → d8.data.toList = numT l → gd = l ∧ b = b7) :
    ∀ i : Sv.Item, FineI i → [(⟨#[99, 111, 110, 116]⟩ : ByteArray), d1, d2, d3, d4, d5, d6, d7, d8].map (fun b : ByteArray => b.data.toList) = itemW i → ((∃ c g, i = .cont c g) → M ++ [⟨⟨name, prio, conts⟩, given⟩] ≠ []) →
      M ++ [⟨⟨name, prio, conts ++ [⟨d1, n2, n3, n4, n5, nd⟩]⟩, given ++ [⟨x, gd⟩]⟩] = putI (M ++ [⟨⟨name, prio, conts⟩, given⟩]) i ∧ b = bad := by
  obtain ⟨b2, b3, b4, b5, h2, h3, h4, h5, h6⟩ := h
  exact cont_spec h2 h3 h4 h5 h6 h7 h8
structure ContCut (w : World) (r : Nat) (bad : Bool) (d1 d2 d3 d4 d5 d6 : ByteArray) (p : Nat) (n2 n3 n4 n5 : Int) (nd : List Need) (dv : Value) (b : Bool) (wx : World) : Prop where
  blk : Blk wx p 73 #[.string d1, .int .i64 n2, .int .i64 n3, .int .i64 n4, .int .i64 n5, dv]
  rd : Blk wx r 188 #[.bool b]
  kept : Kept (fun k => k = r) w wx
  rs : RS wx (Ty wx 128) 2 RNeed [dv] nd
  pr : r < p
  pw : w.heap.size ≤ p
  q2 : -9223372036854775808 ≤ n2 ∧ n2 ≤ 9223372036854775807
  q3 : -9223372036854775808 ≤ n3 ∧ n3 ≤ 9223372036854775807
  q4 : -9223372036854775808 ≤ n4 ∧ n4 ≤ 9223372036854775807
  q5 : -9223372036854775808 ≤ n5 ∧ n5 ≤ 9223372036854775807
  sp : ContSp bad d2 d3 d4 d5 d6 n2 n3 n4 n5 nd b
theorem cont_leaf {w wx : World} {r p : Nat} {b bad : Bool} {d1 d2 d3 d4 d5 d6 : ByteArray} {n2 n3 n4 n5 : Int} {nd : List Need} {dv : Value} (hp : Blk wx p 73 #[.string ⟨#[]⟩, .int .i64 0, .int .i64 0, .int .i64 0, .int .i64 0, .slice none 0 0]) (hr : Blk wx r 188 #[.bool b]) (hk : Kept (fun k => k = r) w wx) (hq : RS wx (Ty wx 128) 2 RNeed [dv] nd) (pr : r < p) (pw : w.heap.size ≤ p)
    (q2 : -9223372036854775808 ≤ n2 ∧ n2 ≤ 9223372036854775807) (q3 : -9223372036854775808 ≤ n3 ∧ n3 ≤ 9223372036854775807) (q4 : -9223372036854775808 ≤ n4 ∧ n4 ≤ 9223372036854775807) (q5 : -9223372036854775808 ≤ n5 ∧ n5 ≤ 9223372036854775807) (sp : ContSp bad d2 d3 d4 d5 d6 n2 n3 n4 n5 nd b) :
    ContCut w r bad d1 d2 d3 d4 d5 d6 p n2 n3 n4 n5 nd dv b ((((((wx.setCell ⟨p, 0, none⟩ (.string d1)).setCell ⟨p, 1, none⟩ (.int .i64 n2)).setCell ⟨p, 2, none⟩ (.int .i64 n3)).setCell ⟨p, 3, none⟩ (.int .i64 n4)).setCell ⟨p, 4, none⟩ (.int .i64 n5)).setCell ⟨p, 5, none⟩ dv) := by
  have hb := (((((hp.set_ 0 (.string d1)).set_ 1 (.int .i64 n2)).set_ 2 (.int .i64 n3)).set_ 3 (.int .i64 n4)).set_ 4 (.int .i64 n5)).set_ 5 dv
  have h6 : Kept (fun k => k = p) wx ((((((wx.setCell ⟨p, 0, none⟩ (.string d1)).setCell ⟨p, 1, none⟩ (.int .i64 n2)).setCell ⟨p, 2, none⟩ (.int .i64 n3)).setCell ⟨p, 3, none⟩ (.int .i64 n4)).setCell ⟨p, 4, none⟩ (.int .i64 n5)).setCell ⟨p, 5, none⟩ dv) :=
    ((((((Kept.refl _ wx).set1 (i := 0) _).set1 (i := 1) _).set1 (i := 2) _).set1 (i := 3) _).set1 (i := 4) _).set1 (i := 5) _
  exact ⟨hb.cast (by simp), hr.kept h6 (by omega), hk.then_ h6 (fun k hk he => by omega), needs_kept hq h6 fun b hb he => Ty.ne hb ⟨_, hp⟩ (by decide) he, pr, pw, q2, q3, q4, q5, sp⟩
section
attribute [local irreducible] numT needsT wordsC i64B Lib.cut contW podW putI itemW FineI ContSp
set_option maxRecDepth 100000 in
set_option maxHeartbeats 16000000 in
/-- A container's line. -/
theorem rline_cont (W0 : World) (hL : LayS W0) (B r g : Nat) (h0 : W0.heap.size ≤ B) (bad : Bool) (v : Value) (L : List Held) (d1 d2 d3 d4 d5 d6 d7 d8 : ByteArray) (w : World) (hW : Below W0.heap.size W0 w) (hr : Blk w r 188 #[.bool bad]) (hB : B ≤ r) (hP : PW w B v L) (hne : L ≠ []) (hg : Blk w g 9 #[.string ⟨#[99, 111, 110, 116]⟩, .string d1, .string d2, .string d3, .string d4, .string d5, .string d6, .string d7, .string d8])
    (hd1 : d1.size ≤ 7000) (hd2 : d2.size ≤ 7000) (hd3 : d3.size ≤ 7000) (hd4 : d4.size ≤ 7000) (hd5 : d5.size ≤ 7000) (hd6 : d6.size ≤ 7000) (hd7 : d7.size ≤ 7000) (hd8 : d8.size ≤ 7000) (hlim : Lim 10000 L) :
    Calls Tryz.prog 100 #[.pointer (some ⟨r, 0, none⟩), v, .slice (some ⟨g, 0, none⟩) 9 9] w (LineR B r bad L [⟨#[99, 111, 110, 116]⟩, d1, d2, d3, d4, d5, d6, d7, d8] w) := by
  obtain ⟨KB, gh, cap, hs, M, name, prio, cv, gv, conts, given, rfl, hcap, hmax, rfl, hnm, hpr, hS⟩ := LS.of (D := [⟨#[99, 111, 110, 116]⟩, d1, d2, d3, d4, d5, d6, d7, d8]) hP hne hr hg
  have HN := Lib.hid (fun W b d (hd : ByteArray.size d ≤ 7000) (hk : Kept (fun k => k = r) w W) (hrW : Blk W r 188 #[.bool b]) => rnumber_any r b d hd W hrW (hL.read hW (Nat.le_trans h0 hB) hk).1)
  have HND := Lib.hid (fun W b d (hd : ByteArray.size d ≤ 7000) (hk : Kept (fun k => k = r) w W) (hrW : Blk W r 188 #[.bool b]) => rneeds_any W0 hL r (Nat.le_trans h0 hB) b d hd W (hL.read hW (Nat.le_trans h0 hB) hk).2 hrW)
  have HSE := Lib.hid (fun W b d (hd : ByteArray.size d ≤ 7000) (hW' : Below W0.heap.size W0 W) (hrW : Blk W r 188 #[.bool b]) => rset_any r b d hd W hrW (hL.below hW'))
  have HNS := Lib.hid (fun W b d (hd : ByteArray.size d ≤ 7000) (hW' : Below W0.heap.size W0 W) (hrW : Blk W r 188 #[.bool b]) => rnumbers_any W0 hL r (Nat.le_trans h0 hB) b d hd W hW' hrW)
  have HL0 := Lib.hid hL
  have HW0 := Lib.hid hW
  have HH0 := Lib.hid h0
  have hcl1 := (hlim.2 ⟨⟨name, prio, conts⟩, given⟩ (by simp)).1
  have hcl2 := (hlim.2 ⟨⟨name, prio, conts⟩, given⟩ (by simp)).2
  have hml : M.length ≤ 10000 := by have := hlim.1; rw [List.length_append] at this; omega
  dsimp only at hcl1 hcl2
  have HS := Lib.hid hS
  have HRW := Lib.hid hr
  have HR : Hid (Blk w.drew r 188 #[.bool bad]) := Lib.hid hr.drew
  have HK : Hid (Kept (fun k => k = r) w w.drew) := Lib.hid (Kept.refl _ _).drew
  have HG := Lib.hid hg
  have HBB := Lib.hid hB
  have HNM := Lib.hid hnm
  have HPR := Lib.hid hpr
  have hc0 := hg.cells
  have hl0 := hg.lt
  have zr := hr.lt
  unfold maxLen at hmax
  clear hP hne hr hL hW h0 hB hlim hnm hpr hS
  go_enter Tryz.func100, Tryz.ntmps100
  go_upto_region 6 with fail
  have hI : Blk w.drew g 9 #[.string ⟨#[99, 111, 110, 116]⟩, .string d1, .string d2, .string d3, .string d4, .string d5, .string d6, .string d7, .string d8] := hg.drew
  clear hc0 hg
  go_cut [8] (fun s wx => ∃ p n2 n3 n4 n5 nd A6 c6 b6, s = .pointer (some ⟨p, 0, none⟩) ∧ Hid (ContCut w r bad d1 d2 d3 d4 d5 d6 p n2 n3 n4 n5 nd (.slice A6 (List.length nd) c6) b6 wx))
  case first =>
    rename_i J0 K0 hJ0 hK0
    clear HS HBB HNM HPR HL0 HW0 HH0
    refine Flo.regionBr 32 10 [0, 1, 2, 3, 4, 5, 6, 8, 9, 10, 11, 14, 15, 16, 17, 19, 20, 21, 22, 25, 26, 27, 28] #[true, true, true, true, true, true, true, false, true, true, true, true, false, false, true, true, true, true, false, true, true, true, true, false, false, true, true, true, true, false, false, false, false] (fun v => Blk v g 9 #[.string ⟨#[99, 111, 110, 116]⟩, .string d1, .string d2, .string d3, .string d4, .string d5, .string d6, .string d7, .string d8]) (by kernel_rfl) (by kernel_rfl) rfl hI ?_
    unfold Flo.wpFs
    simp only [List.map_cons, List.map_nil]
    iterate 23 (apply Flo.op rfl (hI := hI); (· intro v hv K hK; have hc := Blk.cells hv; have hl := Blk.lt hv; clear hv; go_wp2_with fail; all_goals first | exact Flo.noUndef (by with_reducible assumption) | exact hK); (· rfl))
    refine Flo.nil ?_
    generalize w.drew = v0 at *
    refine Flo.br2 (i := 7) (j := 31) (by kernel_rfl) rfl rfl (fun K hK => ?_) (fun K hK => ?_)
    · go_wp2_with fail
      refine (HN.out _ bad d2 hd2 HK.out HR.out).mono ?_
      rintro e w2 ⟨n2, b2, rfl, hn2, hrj, hkj, hv2⟩
      go_wp2_with fail
      have hI' : Blk w2 g 9 #[.string ⟨#[99, 111, 110, 116]⟩, .string d1, .string d2, .string d3, .string d4, .string d5, .string d6, .string d7, .string d8] := HG.out.kept (HK.out.trans hkj) fun he => HG.out.ne_ HRW.out (by decide) he
      refine hK _ _ (fun _ => hI') ?_
      have HK' := Lib.hid (HK.out.trans hkj)
      have HR' := Lib.hid hrj
      clear hK hI HK HR hrj hkj
      have hI := hI'
      have HK := HK'
      have HR := HR'
      clear hI' HK' HR'
      refine Flo.br2 (i := 12) (j := 31) (by kernel_rfl) rfl rfl (fun K hK => ?_) (fun K hK => ?_)
      · go_wp2_with fail
        refine (HN.out _ b2 d3 hd3 HK.out HR.out).mono ?_
        rintro e w3 ⟨n3, b3, rfl, hn3, hrj, hkj, hv3⟩
        go_wp2_with fail
        have hI' : Blk w3 g 9 #[.string ⟨#[99, 111, 110, 116]⟩, .string d1, .string d2, .string d3, .string d4, .string d5, .string d6, .string d7, .string d8] := HG.out.kept (HK.out.trans hkj) fun he => HG.out.ne_ HRW.out (by decide) he
        refine hK _ _ (fun _ => hI') ?_
        have HK' := Lib.hid (HK.out.trans hkj)
        have HR' := Lib.hid hrj
        clear hK hI HK HR hrj hkj
        have hI := hI'
        have HK := HK'
        have HR := HR'
        clear hI' HK' HR'
        refine Flo.brF (g := 7) [13] #[true, true, true, true, true, true, true, true, true, true, true, true, true, false, true, true, true, true, false, true, true, true, true, false, false, true, true, true, true, false, false, false, false] (L := #[true, true, true, true, true, true, true, true, true, true, true, true, true, true, true, true, true, true, false, true, true, true, true, false, false, true, true, true, true, false, false, false, false]) (by kernel_rfl) hI ?_
        unfold Flo.wpFs
        simp only [List.map_cons, List.map_nil]
        iterate 1 (apply Flo.op rfl (hI := hI); (· intro v hv K hK; have hc := Blk.cells hv; have hl := Blk.lt hv; clear hv; go_wp2_with fail; all_goals first | exact Flo.noUndef (by with_reducible assumption) | exact hK); (· rfl))
        refine Flo.nil ?_
        refine Flo.br2 (i := 18) (j := 31) (by kernel_rfl) rfl rfl (fun K hK => ?_) (fun K hK => ?_)
        · go_wp2_with fail
          refine (HN.out _ b3 d4 hd4 HK.out HR.out).mono ?_
          rintro e w4 ⟨n4, b4, rfl, hn4, hrj, hkj, hv4⟩
          go_wp2_with fail
          have hI' : Blk w4 g 9 #[.string ⟨#[99, 111, 110, 116]⟩, .string d1, .string d2, .string d3, .string d4, .string d5, .string d6, .string d7, .string d8] := HG.out.kept (HK.out.trans hkj) fun he => HG.out.ne_ HRW.out (by decide) he
          refine hK _ _ (fun _ => hI') ?_
          have HK' := Lib.hid (HK.out.trans hkj)
          have HR' := Lib.hid hrj
          clear hK hI HK HR hrj hkj
          have hI := hI'
          have HK := HK'
          have HR := HR'
          clear hI' HK' HR'
          refine Flo.br2 (i := 23) (j := 31) (by kernel_rfl) rfl rfl (fun K hK => ?_) (fun K hK => ?_)
          · go_wp2_with fail
            refine (HN.out _ b4 d5 hd5 HK.out HR.out).mono ?_
            rintro e w5 ⟨n5, b5, rfl, hn5, hrj, hkj, hv5⟩
            go_wp2_with fail
            have hI' : Blk w5 g 9 #[.string ⟨#[99, 111, 110, 116]⟩, .string d1, .string d2, .string d3, .string d4, .string d5, .string d6, .string d7, .string d8] := HG.out.kept (HK.out.trans hkj) fun he => HG.out.ne_ HRW.out (by decide) he
            refine hK _ _ (fun _ => hI') ?_
            have HK' := Lib.hid (HK.out.trans hkj)
            have HR' := Lib.hid hrj
            clear hK hI HK HR hrj hkj
            have hI := hI'
            have HK := HK'
            have HR := HR'
            clear hI' HK' HR'
            refine Flo.brF (g := 4) [24] #[true, true, true, true, true, true, true, true, true, true, true, true, true, true, true, true, true, true, true, true, true, true, true, true, false, true, true, true, true, false, false, false, false] (L := #[true, true, true, true, true, true, true, true, true, true, true, true, true, true, true, true, true, true, true, true, true, true, true, true, true, true, true, true, true, false, false, false, false]) (by kernel_rfl) hI ?_
            unfold Flo.wpFs
            simp only [List.map_cons, List.map_nil]
            iterate 1 (apply Flo.op rfl (hI := hI); (· intro v hv K hK; have hc := Blk.cells hv; have hl := Blk.lt hv; clear hv; go_wp2_with fail; all_goals first | exact Flo.noUndef (by with_reducible assumption) | exact hK); (· rfl))
            refine Flo.nil ?_
            refine Flo.br2 (i := 29) (j := 31) (by kernel_rfl) rfl rfl (fun K hK => ?_) (fun K hK => ?_)
            · go_wp2_with fail
              refine (HND.out _ b5 d6 hd6 HK.out HR.out).mono ?_
              rintro e w6 ⟨nv, nd, b6, rfl, hnd, hrj, hkj, hv6⟩
              obtain ⟨A6, c6, e6, e6a, e6b, _⟩ := hnd.form
              obtain rfl : nv = _ := by simpa using e6
              clear e6
              go_wp2_with fail
              have hI' : Blk w6 g 9 #[.string ⟨#[99, 111, 110, 116]⟩, .string d1, .string d2, .string d3, .string d4, .string d5, .string d6, .string d7, .string d8] := HG.out.kept (HK.out.trans hkj) fun he => HG.out.ne_ HRW.out (by decide) he
              refine hK _ _ (fun _ => hI') ?_
              have HK' := Lib.hid (HK.out.trans hkj)
              have HR' := Lib.hid hrj
              clear hK hI HK HR hrj hkj
              have hI := hI'
              have HK := HK'
              have HR := HR'
              have HQ := Lib.hid hnd
              clear hnd
              clear hI' HK' HR'
              refine Flo.brF (g := 2) [30] #[true, true, true, true, true, true, true, true, true, true, true, true, true, true, true, true, true, true, true, true, true, true, true, true, true, true, true, true, true, true, false, false, false] (L := #[true, true, true, true, true, true, true, true, true, true, true, true, true, true, true, true, true, true, true, true, true, true, true, true, true, true, true, true, true, true, true, false, false]) (by kernel_rfl) hI ?_
              unfold Flo.wpFs
              simp only [List.map_cons, List.map_nil]
              iterate 1 (apply Flo.op rfl (hI := hI); (· intro v hv K hK; have hc := Blk.cells hv; have hl := Blk.lt hv; clear hv; go_wp2_with fail; all_goals first | exact Flo.noUndef (by with_reducible assumption) | exact hK); (· rfl))
              refine Flo.nil ?_
              refine Flo.br1 (i := 31) (by kernel_rfl) rfl (fun K hK => ?_)
              go_wp2_with fail
              have hI' := hI.alloc (.cells #[.string ⟨#[]⟩, .int .i64 0, .int .i64 0, .int .i64 0, .int .i64 0, .slice none 0 0] 73)
              refine hK _ _ (fun _ => hI') ?_
              have HK' := Lib.hid (HK.out.alloc (.cells #[.string ⟨#[]⟩, .int .i64 0, .int .i64 0, .int .i64 0, .int .i64 0, .slice none 0 0] 73))
              have HR' := Lib.hid (HR.out.alloc (.cells #[.string ⟨#[]⟩, .int .i64 0, .int .i64 0, .int .i64 0, .int .i64 0, .slice none 0 0] 73))
              have HP := Lib.hid (Blk.new w6 73 #[.string ⟨#[]⟩, .int .i64 0, .int .i64 0, .int .i64 0, .int .i64 0, .slice none 0 0])
              have hpr : r < w6.heap.size := HR.out.lt
              have hpw : w.heap.size ≤ w6.heap.size := HK.out.size
              have HQ' := Lib.hid (needs_alloc HQ.out (.cells #[.string ⟨#[]⟩, .int .i64 0, .int .i64 0, .int .i64 0, .int .i64 0, .slice none 0 0] 73))
              clear hK hI HK HR HQ
              have hI := hI'
              have HK := HK'
              have HR := HR'
              have HQ := HQ'
              clear hI' HK' HR' HQ'
              generalize w6.alloc (.cells #[.string ⟨#[]⟩, .int .i64 0, .int .i64 0, .int .i64 0, .int .i64 0, .slice none 0 0] 73) = wa at *
              generalize w6.heap.size = p at *
              have e9 := HP.out.cells
              have f9 := HP.out.frozens
              have l9 := HP.out.lt
              refine Flo.br1 (i := 32) (by kernel_rfl) rfl (fun K hK => ?_)
              go_wp2_with fail
              refine hK _ _ (fun h => absurd h (by omega)) ?_
              refine Flo.brEnd (by kernel_rfl) ?_
              refine hK0 _ _ ?_
              clear hK e9 f9 l9 hK0
              go_meet
              exact ⟨p, n2, n3, n4, n5, nd, A6, c6, b6, rfl, Lib.hid (cont_leaf HP.out HR.out HK.out HQ.out hpr hpw hn2 hn3 hn4 hn5 (ContSp.of hv2 hv3 hv4 hv5 hv6))⟩
            · go_wp2_with fail
              have hI' := hI.alloc (.cells #[.string ⟨#[]⟩, .int .i64 0, .int .i64 0, .int .i64 0, .int .i64 0, .slice none 0 0] 73)
              refine hK _ _ (fun _ => hI') ?_
              have HK' := Lib.hid (HK.out.alloc (.cells #[.string ⟨#[]⟩, .int .i64 0, .int .i64 0, .int .i64 0, .int .i64 0, .slice none 0 0] 73))
              have HR' := Lib.hid (HR.out.alloc (.cells #[.string ⟨#[]⟩, .int .i64 0, .int .i64 0, .int .i64 0, .int .i64 0, .slice none 0 0] 73))
              have HP := Lib.hid (Blk.new w5 73 #[.string ⟨#[]⟩, .int .i64 0, .int .i64 0, .int .i64 0, .int .i64 0, .slice none 0 0])
              have hpr : r < w5.heap.size := HR.out.lt
              have hpw : w.heap.size ≤ w5.heap.size := HK.out.size
              clear hK hI HK HR
              have hI := hI'
              have HK := HK'
              have HR := HR'
              clear hI' HK' HR'
              generalize w5.alloc (.cells #[.string ⟨#[]⟩, .int .i64 0, .int .i64 0, .int .i64 0, .int .i64 0, .slice none 0 0] 73) = wa at *
              generalize w5.heap.size = p at *
              refine Flo.br1 (i := 29) (by kernel_rfl) rfl (fun K hK => ?_)
              go_wp2_with fail
              refine (HND.out _ b5 d6 hd6 HK.out HR.out).mono ?_
              rintro e w6 ⟨nv, nd, b6, rfl, hnd, hrj, hkj, hv6⟩
              obtain ⟨A6, c6, e6, e6a, e6b, _⟩ := hnd.form
              obtain rfl : nv = _ := by simpa using e6
              clear e6
              go_wp2_with fail
              have hI' : Blk w6 g 9 #[.string ⟨#[99, 111, 110, 116]⟩, .string d1, .string d2, .string d3, .string d4, .string d5, .string d6, .string d7, .string d8] := HG.out.kept (HK.out.trans hkj) fun he => HG.out.ne_ HRW.out (by decide) he
              refine hK _ _ (fun _ => hI') ?_
              have HK' := Lib.hid (HK.out.trans hkj)
              have HR' := Lib.hid hrj
              have HP' := Lib.hid (HP.out.kept hkj (by omega))
              clear hK hI HK HR hrj hkj HP
              have hI := hI'
              have HK := HK'
              have HR := HR'
              have HP := HP'
              have HQ := Lib.hid hnd
              clear hnd
              clear hI' HK' HR' HP'
              refine Flo.brF (g := 1) [30] #[true, true, true, true, true, true, true, true, true, true, true, true, true, true, true, true, true, true, true, true, true, true, true, true, true, true, true, true, true, true, false, true, false] (L := #[true, true, true, true, true, true, true, true, true, true, true, true, true, true, true, true, true, true, true, true, true, true, true, true, true, true, true, true, true, true, true, true, false]) (by kernel_rfl) hI ?_
              unfold Flo.wpFs
              simp only [List.map_cons, List.map_nil]
              iterate 1 (apply Flo.op rfl (hI := hI); (· intro v hv K hK; have hc := Blk.cells hv; have hl := Blk.lt hv; clear hv; go_wp2_with fail; all_goals first | exact Flo.noUndef (by with_reducible assumption) | exact hK); (· rfl))
              refine Flo.nil ?_
              have e9 := HP.out.cells
              have f9 := HP.out.frozens
              have l9 := HP.out.lt
              refine Flo.br1 (i := 32) (by kernel_rfl) rfl (fun K hK => ?_)
              go_wp2_with fail
              refine hK _ _ (fun h => absurd h (by omega)) ?_
              refine Flo.brEnd (by kernel_rfl) ?_
              refine hK0 _ _ ?_
              clear hK e9 f9 l9 hK0
              go_meet
              exact ⟨p, n2, n3, n4, n5, nd, A6, c6, b6, rfl, Lib.hid (cont_leaf HP.out HR.out HK.out HQ.out hpr hpw hn2 hn3 hn4 hn5 (ContSp.of hv2 hv3 hv4 hv5 hv6))⟩
          · go_wp2_with fail
            have hI' := hI.alloc (.cells #[.string ⟨#[]⟩, .int .i64 0, .int .i64 0, .int .i64 0, .int .i64 0, .slice none 0 0] 73)
            refine hK _ _ (fun _ => hI') ?_
            have HK' := Lib.hid (HK.out.alloc (.cells #[.string ⟨#[]⟩, .int .i64 0, .int .i64 0, .int .i64 0, .int .i64 0, .slice none 0 0] 73))
            have HR' := Lib.hid (HR.out.alloc (.cells #[.string ⟨#[]⟩, .int .i64 0, .int .i64 0, .int .i64 0, .int .i64 0, .slice none 0 0] 73))
            have HP := Lib.hid (Blk.new w4 73 #[.string ⟨#[]⟩, .int .i64 0, .int .i64 0, .int .i64 0, .int .i64 0, .slice none 0 0])
            have hpr : r < w4.heap.size := HR.out.lt
            have hpw : w.heap.size ≤ w4.heap.size := HK.out.size
            clear hK hI HK HR
            have hI := hI'
            have HK := HK'
            have HR := HR'
            clear hI' HK' HR'
            generalize w4.alloc (.cells #[.string ⟨#[]⟩, .int .i64 0, .int .i64 0, .int .i64 0, .int .i64 0, .slice none 0 0] 73) = wa at *
            generalize w4.heap.size = p at *
            refine Flo.br1 (i := 23) (by kernel_rfl) rfl (fun K hK => ?_)
            go_wp2_with fail
            refine (HN.out _ b4 d5 hd5 HK.out HR.out).mono ?_
            rintro e w5 ⟨n5, b5, rfl, hn5, hrj, hkj, hv5⟩
            go_wp2_with fail
            have hI' : Blk w5 g 9 #[.string ⟨#[99, 111, 110, 116]⟩, .string d1, .string d2, .string d3, .string d4, .string d5, .string d6, .string d7, .string d8] := HG.out.kept (HK.out.trans hkj) fun he => HG.out.ne_ HRW.out (by decide) he
            refine hK _ _ (fun _ => hI') ?_
            have HK' := Lib.hid (HK.out.trans hkj)
            have HR' := Lib.hid hrj
            have HP' := Lib.hid (HP.out.kept hkj (by omega))
            clear hK hI HK HR hrj hkj HP
            have hI := hI'
            have HK := HK'
            have HR := HR'
            have HP := HP'
            clear hI' HK' HR' HP'
            refine Flo.brF (g := 3) [24] #[true, true, true, true, true, true, true, true, true, true, true, true, true, true, true, true, true, true, true, true, true, true, true, true, false, true, true, true, true, false, false, true, false] (L := #[true, true, true, true, true, true, true, true, true, true, true, true, true, true, true, true, true, true, true, true, true, true, true, true, true, true, true, true, true, false, false, true, false]) (by kernel_rfl) hI ?_
            unfold Flo.wpFs
            simp only [List.map_cons, List.map_nil]
            iterate 1 (apply Flo.op rfl (hI := hI); (· intro v hv K hK; have hc := Blk.cells hv; have hl := Blk.lt hv; clear hv; go_wp2_with fail; all_goals first | exact Flo.noUndef (by with_reducible assumption) | exact hK); (· rfl))
            refine Flo.nil ?_
            refine Flo.br1 (i := 29) (by kernel_rfl) rfl (fun K hK => ?_)
            go_wp2_with fail
            refine (HND.out _ b5 d6 hd6 HK.out HR.out).mono ?_
            rintro e w6 ⟨nv, nd, b6, rfl, hnd, hrj, hkj, hv6⟩
            obtain ⟨A6, c6, e6, e6a, e6b, _⟩ := hnd.form
            obtain rfl : nv = _ := by simpa using e6
            clear e6
            go_wp2_with fail
            have hI' : Blk w6 g 9 #[.string ⟨#[99, 111, 110, 116]⟩, .string d1, .string d2, .string d3, .string d4, .string d5, .string d6, .string d7, .string d8] := HG.out.kept (HK.out.trans hkj) fun he => HG.out.ne_ HRW.out (by decide) he
            refine hK _ _ (fun _ => hI') ?_
            have HK' := Lib.hid (HK.out.trans hkj)
            have HR' := Lib.hid hrj
            have HP' := Lib.hid (HP.out.kept hkj (by omega))
            clear hK hI HK HR hrj hkj HP
            have hI := hI'
            have HK := HK'
            have HR := HR'
            have HP := HP'
            have HQ := Lib.hid hnd
            clear hnd
            clear hI' HK' HR' HP'
            refine Flo.brF (g := 1) [30] #[true, true, true, true, true, true, true, true, true, true, true, true, true, true, true, true, true, true, true, true, true, true, true, true, true, true, true, true, true, true, false, true, false] (L := #[true, true, true, true, true, true, true, true, true, true, true, true, true, true, true, true, true, true, true, true, true, true, true, true, true, true, true, true, true, true, true, true, false]) (by kernel_rfl) hI ?_
            unfold Flo.wpFs
            simp only [List.map_cons, List.map_nil]
            iterate 1 (apply Flo.op rfl (hI := hI); (· intro v hv K hK; have hc := Blk.cells hv; have hl := Blk.lt hv; clear hv; go_wp2_with fail; all_goals first | exact Flo.noUndef (by with_reducible assumption) | exact hK); (· rfl))
            refine Flo.nil ?_
            have e9 := HP.out.cells
            have f9 := HP.out.frozens
            have l9 := HP.out.lt
            refine Flo.br1 (i := 32) (by kernel_rfl) rfl (fun K hK => ?_)
            go_wp2_with fail
            refine hK _ _ (fun h => absurd h (by omega)) ?_
            refine Flo.brEnd (by kernel_rfl) ?_
            refine hK0 _ _ ?_
            clear hK e9 f9 l9 hK0
            go_meet
            exact ⟨p, n2, n3, n4, n5, nd, A6, c6, b6, rfl, Lib.hid (cont_leaf HP.out HR.out HK.out HQ.out hpr hpw hn2 hn3 hn4 hn5 (ContSp.of hv2 hv3 hv4 hv5 hv6))⟩
        · go_wp2_with fail
          have hI' := hI.alloc (.cells #[.string ⟨#[]⟩, .int .i64 0, .int .i64 0, .int .i64 0, .int .i64 0, .slice none 0 0] 73)
          refine hK _ _ (fun _ => hI') ?_
          have HK' := Lib.hid (HK.out.alloc (.cells #[.string ⟨#[]⟩, .int .i64 0, .int .i64 0, .int .i64 0, .int .i64 0, .slice none 0 0] 73))
          have HR' := Lib.hid (HR.out.alloc (.cells #[.string ⟨#[]⟩, .int .i64 0, .int .i64 0, .int .i64 0, .int .i64 0, .slice none 0 0] 73))
          have HP := Lib.hid (Blk.new w3 73 #[.string ⟨#[]⟩, .int .i64 0, .int .i64 0, .int .i64 0, .int .i64 0, .slice none 0 0])
          have hpr : r < w3.heap.size := HR.out.lt
          have hpw : w.heap.size ≤ w3.heap.size := HK.out.size
          clear hK hI HK HR
          have hI := hI'
          have HK := HK'
          have HR := HR'
          clear hI' HK' HR'
          generalize w3.alloc (.cells #[.string ⟨#[]⟩, .int .i64 0, .int .i64 0, .int .i64 0, .int .i64 0, .slice none 0 0] 73) = wa at *
          generalize w3.heap.size = p at *
          refine Flo.br1 (i := 18) (by kernel_rfl) rfl (fun K hK => ?_)
          go_wp2_with fail
          refine (HN.out _ b3 d4 hd4 HK.out HR.out).mono ?_
          rintro e w4 ⟨n4, b4, rfl, hn4, hrj, hkj, hv4⟩
          go_wp2_with fail
          have hI' : Blk w4 g 9 #[.string ⟨#[99, 111, 110, 116]⟩, .string d1, .string d2, .string d3, .string d4, .string d5, .string d6, .string d7, .string d8] := HG.out.kept (HK.out.trans hkj) fun he => HG.out.ne_ HRW.out (by decide) he
          refine hK _ _ (fun _ => hI') ?_
          have HK' := Lib.hid (HK.out.trans hkj)
          have HR' := Lib.hid hrj
          have HP' := Lib.hid (HP.out.kept hkj (by omega))
          clear hK hI HK HR hrj hkj HP
          have hI := hI'
          have HK := HK'
          have HR := HR'
          have HP := HP'
          clear hI' HK' HR' HP'
          refine Flo.br1 (i := 23) (by kernel_rfl) rfl (fun K hK => ?_)
          go_wp2_with fail
          refine (HN.out _ b4 d5 hd5 HK.out HR.out).mono ?_
          rintro e w5 ⟨n5, b5, rfl, hn5, hrj, hkj, hv5⟩
          go_wp2_with fail
          have hI' : Blk w5 g 9 #[.string ⟨#[99, 111, 110, 116]⟩, .string d1, .string d2, .string d3, .string d4, .string d5, .string d6, .string d7, .string d8] := HG.out.kept (HK.out.trans hkj) fun he => HG.out.ne_ HRW.out (by decide) he
          refine hK _ _ (fun _ => hI') ?_
          have HK' := Lib.hid (HK.out.trans hkj)
          have HR' := Lib.hid hrj
          have HP' := Lib.hid (HP.out.kept hkj (by omega))
          clear hK hI HK HR hrj hkj HP
          have hI := hI'
          have HK := HK'
          have HR := HR'
          have HP := HP'
          clear hI' HK' HR' HP'
          refine Flo.brF (g := 3) [24] #[true, true, true, true, true, true, true, true, true, true, true, true, true, true, true, true, true, true, true, true, true, true, true, true, false, true, true, true, true, false, false, true, false] (L := #[true, true, true, true, true, true, true, true, true, true, true, true, true, true, true, true, true, true, true, true, true, true, true, true, true, true, true, true, true, false, false, true, false]) (by kernel_rfl) hI ?_
          unfold Flo.wpFs
          simp only [List.map_cons, List.map_nil]
          iterate 1 (apply Flo.op rfl (hI := hI); (· intro v hv K hK; have hc := Blk.cells hv; have hl := Blk.lt hv; clear hv; go_wp2_with fail; all_goals first | exact Flo.noUndef (by with_reducible assumption) | exact hK); (· rfl))
          refine Flo.nil ?_
          refine Flo.br1 (i := 29) (by kernel_rfl) rfl (fun K hK => ?_)
          go_wp2_with fail
          refine (HND.out _ b5 d6 hd6 HK.out HR.out).mono ?_
          rintro e w6 ⟨nv, nd, b6, rfl, hnd, hrj, hkj, hv6⟩
          obtain ⟨A6, c6, e6, e6a, e6b, _⟩ := hnd.form
          obtain rfl : nv = _ := by simpa using e6
          clear e6
          go_wp2_with fail
          have hI' : Blk w6 g 9 #[.string ⟨#[99, 111, 110, 116]⟩, .string d1, .string d2, .string d3, .string d4, .string d5, .string d6, .string d7, .string d8] := HG.out.kept (HK.out.trans hkj) fun he => HG.out.ne_ HRW.out (by decide) he
          refine hK _ _ (fun _ => hI') ?_
          have HK' := Lib.hid (HK.out.trans hkj)
          have HR' := Lib.hid hrj
          have HP' := Lib.hid (HP.out.kept hkj (by omega))
          clear hK hI HK HR hrj hkj HP
          have hI := hI'
          have HK := HK'
          have HR := HR'
          have HP := HP'
          have HQ := Lib.hid hnd
          clear hnd
          clear hI' HK' HR' HP'
          refine Flo.brF (g := 1) [30] #[true, true, true, true, true, true, true, true, true, true, true, true, true, true, true, true, true, true, true, true, true, true, true, true, true, true, true, true, true, true, false, true, false] (L := #[true, true, true, true, true, true, true, true, true, true, true, true, true, true, true, true, true, true, true, true, true, true, true, true, true, true, true, true, true, true, true, true, false]) (by kernel_rfl) hI ?_
          unfold Flo.wpFs
          simp only [List.map_cons, List.map_nil]
          iterate 1 (apply Flo.op rfl (hI := hI); (· intro v hv K hK; have hc := Blk.cells hv; have hl := Blk.lt hv; clear hv; go_wp2_with fail; all_goals first | exact Flo.noUndef (by with_reducible assumption) | exact hK); (· rfl))
          refine Flo.nil ?_
          have e9 := HP.out.cells
          have f9 := HP.out.frozens
          have l9 := HP.out.lt
          refine Flo.br1 (i := 32) (by kernel_rfl) rfl (fun K hK => ?_)
          go_wp2_with fail
          refine hK _ _ (fun h => absurd h (by omega)) ?_
          refine Flo.brEnd (by kernel_rfl) ?_
          refine hK0 _ _ ?_
          clear hK e9 f9 l9 hK0
          go_meet
          exact ⟨p, n2, n3, n4, n5, nd, A6, c6, b6, rfl, Lib.hid (cont_leaf HP.out HR.out HK.out HQ.out hpr hpw hn2 hn3 hn4 hn5 (ContSp.of hv2 hv3 hv4 hv5 hv6))⟩
      · go_wp2_with fail
        have hI' := hI.alloc (.cells #[.string ⟨#[]⟩, .int .i64 0, .int .i64 0, .int .i64 0, .int .i64 0, .slice none 0 0] 73)
        refine hK _ _ (fun _ => hI') ?_
        have HK' := Lib.hid (HK.out.alloc (.cells #[.string ⟨#[]⟩, .int .i64 0, .int .i64 0, .int .i64 0, .int .i64 0, .slice none 0 0] 73))
        have HR' := Lib.hid (HR.out.alloc (.cells #[.string ⟨#[]⟩, .int .i64 0, .int .i64 0, .int .i64 0, .int .i64 0, .slice none 0 0] 73))
        have HP := Lib.hid (Blk.new w2 73 #[.string ⟨#[]⟩, .int .i64 0, .int .i64 0, .int .i64 0, .int .i64 0, .slice none 0 0])
        have hpr : r < w2.heap.size := HR.out.lt
        have hpw : w.heap.size ≤ w2.heap.size := HK.out.size
        clear hK hI HK HR
        have hI := hI'
        have HK := HK'
        have HR := HR'
        clear hI' HK' HR'
        generalize w2.alloc (.cells #[.string ⟨#[]⟩, .int .i64 0, .int .i64 0, .int .i64 0, .int .i64 0, .slice none 0 0] 73) = wa at *
        generalize w2.heap.size = p at *
        refine Flo.br1 (i := 12) (by kernel_rfl) rfl (fun K hK => ?_)
        go_wp2_with fail
        refine (HN.out _ b2 d3 hd3 HK.out HR.out).mono ?_
        rintro e w3 ⟨n3, b3, rfl, hn3, hrj, hkj, hv3⟩
        go_wp2_with fail
        have hI' : Blk w3 g 9 #[.string ⟨#[99, 111, 110, 116]⟩, .string d1, .string d2, .string d3, .string d4, .string d5, .string d6, .string d7, .string d8] := HG.out.kept (HK.out.trans hkj) fun he => HG.out.ne_ HRW.out (by decide) he
        refine hK _ _ (fun _ => hI') ?_
        have HK' := Lib.hid (HK.out.trans hkj)
        have HR' := Lib.hid hrj
        have HP' := Lib.hid (HP.out.kept hkj (by omega))
        clear hK hI HK HR hrj hkj HP
        have hI := hI'
        have HK := HK'
        have HR := HR'
        have HP := HP'
        clear hI' HK' HR' HP'
        refine Flo.brF (g := 6) [13] #[true, true, true, true, true, true, true, true, true, true, true, true, true, false, true, true, true, true, false, true, true, true, true, false, false, true, true, true, true, false, false, true, false] (L := #[true, true, true, true, true, true, true, true, true, true, true, true, true, true, true, true, true, true, false, true, true, true, true, false, false, true, true, true, true, false, false, true, false]) (by kernel_rfl) hI ?_
        unfold Flo.wpFs
        simp only [List.map_cons, List.map_nil]
        iterate 1 (apply Flo.op rfl (hI := hI); (· intro v hv K hK; have hc := Blk.cells hv; have hl := Blk.lt hv; clear hv; go_wp2_with fail; all_goals first | exact Flo.noUndef (by with_reducible assumption) | exact hK); (· rfl))
        refine Flo.nil ?_
        refine Flo.br1 (i := 18) (by kernel_rfl) rfl (fun K hK => ?_)
        go_wp2_with fail
        refine (HN.out _ b3 d4 hd4 HK.out HR.out).mono ?_
        rintro e w4 ⟨n4, b4, rfl, hn4, hrj, hkj, hv4⟩
        go_wp2_with fail
        have hI' : Blk w4 g 9 #[.string ⟨#[99, 111, 110, 116]⟩, .string d1, .string d2, .string d3, .string d4, .string d5, .string d6, .string d7, .string d8] := HG.out.kept (HK.out.trans hkj) fun he => HG.out.ne_ HRW.out (by decide) he
        refine hK _ _ (fun _ => hI') ?_
        have HK' := Lib.hid (HK.out.trans hkj)
        have HR' := Lib.hid hrj
        have HP' := Lib.hid (HP.out.kept hkj (by omega))
        clear hK hI HK HR hrj hkj HP
        have hI := hI'
        have HK := HK'
        have HR := HR'
        have HP := HP'
        clear hI' HK' HR' HP'
        refine Flo.br1 (i := 23) (by kernel_rfl) rfl (fun K hK => ?_)
        go_wp2_with fail
        refine (HN.out _ b4 d5 hd5 HK.out HR.out).mono ?_
        rintro e w5 ⟨n5, b5, rfl, hn5, hrj, hkj, hv5⟩
        go_wp2_with fail
        have hI' : Blk w5 g 9 #[.string ⟨#[99, 111, 110, 116]⟩, .string d1, .string d2, .string d3, .string d4, .string d5, .string d6, .string d7, .string d8] := HG.out.kept (HK.out.trans hkj) fun he => HG.out.ne_ HRW.out (by decide) he
        refine hK _ _ (fun _ => hI') ?_
        have HK' := Lib.hid (HK.out.trans hkj)
        have HR' := Lib.hid hrj
        have HP' := Lib.hid (HP.out.kept hkj (by omega))
        clear hK hI HK HR hrj hkj HP
        have hI := hI'
        have HK := HK'
        have HR := HR'
        have HP := HP'
        clear hI' HK' HR' HP'
        refine Flo.brF (g := 3) [24] #[true, true, true, true, true, true, true, true, true, true, true, true, true, true, true, true, true, true, true, true, true, true, true, true, false, true, true, true, true, false, false, true, false] (L := #[true, true, true, true, true, true, true, true, true, true, true, true, true, true, true, true, true, true, true, true, true, true, true, true, true, true, true, true, true, false, false, true, false]) (by kernel_rfl) hI ?_
        unfold Flo.wpFs
        simp only [List.map_cons, List.map_nil]
        iterate 1 (apply Flo.op rfl (hI := hI); (· intro v hv K hK; have hc := Blk.cells hv; have hl := Blk.lt hv; clear hv; go_wp2_with fail; all_goals first | exact Flo.noUndef (by with_reducible assumption) | exact hK); (· rfl))
        refine Flo.nil ?_
        refine Flo.br1 (i := 29) (by kernel_rfl) rfl (fun K hK => ?_)
        go_wp2_with fail
        refine (HND.out _ b5 d6 hd6 HK.out HR.out).mono ?_
        rintro e w6 ⟨nv, nd, b6, rfl, hnd, hrj, hkj, hv6⟩
        obtain ⟨A6, c6, e6, e6a, e6b, _⟩ := hnd.form
        obtain rfl : nv = _ := by simpa using e6
        clear e6
        go_wp2_with fail
        have hI' : Blk w6 g 9 #[.string ⟨#[99, 111, 110, 116]⟩, .string d1, .string d2, .string d3, .string d4, .string d5, .string d6, .string d7, .string d8] := HG.out.kept (HK.out.trans hkj) fun he => HG.out.ne_ HRW.out (by decide) he
        refine hK _ _ (fun _ => hI') ?_
        have HK' := Lib.hid (HK.out.trans hkj)
        have HR' := Lib.hid hrj
        have HP' := Lib.hid (HP.out.kept hkj (by omega))
        clear hK hI HK HR hrj hkj HP
        have hI := hI'
        have HK := HK'
        have HR := HR'
        have HP := HP'
        have HQ := Lib.hid hnd
        clear hnd
        clear hI' HK' HR' HP'
        refine Flo.brF (g := 1) [30] #[true, true, true, true, true, true, true, true, true, true, true, true, true, true, true, true, true, true, true, true, true, true, true, true, true, true, true, true, true, true, false, true, false] (L := #[true, true, true, true, true, true, true, true, true, true, true, true, true, true, true, true, true, true, true, true, true, true, true, true, true, true, true, true, true, true, true, true, false]) (by kernel_rfl) hI ?_
        unfold Flo.wpFs
        simp only [List.map_cons, List.map_nil]
        iterate 1 (apply Flo.op rfl (hI := hI); (· intro v hv K hK; have hc := Blk.cells hv; have hl := Blk.lt hv; clear hv; go_wp2_with fail; all_goals first | exact Flo.noUndef (by with_reducible assumption) | exact hK); (· rfl))
        refine Flo.nil ?_
        have e9 := HP.out.cells
        have f9 := HP.out.frozens
        have l9 := HP.out.lt
        refine Flo.br1 (i := 32) (by kernel_rfl) rfl (fun K hK => ?_)
        go_wp2_with fail
        refine hK _ _ (fun h => absurd h (by omega)) ?_
        refine Flo.brEnd (by kernel_rfl) ?_
        refine hK0 _ _ ?_
        clear hK e9 f9 l9 hK0
        go_meet
        exact ⟨p, n2, n3, n4, n5, nd, A6, c6, b6, rfl, Lib.hid (cont_leaf HP.out HR.out HK.out HQ.out hpr hpw hn2 hn3 hn4 hn5 (ContSp.of hv2 hv3 hv4 hv5 hv6))⟩
    · go_wp2_with fail
      have hI' := hI.alloc (.cells #[.string ⟨#[]⟩, .int .i64 0, .int .i64 0, .int .i64 0, .int .i64 0, .slice none 0 0] 73)
      refine hK _ _ (fun _ => hI') ?_
      have HK' := Lib.hid (HK.out.alloc (.cells #[.string ⟨#[]⟩, .int .i64 0, .int .i64 0, .int .i64 0, .int .i64 0, .slice none 0 0] 73))
      have HR' := Lib.hid (HR.out.alloc (.cells #[.string ⟨#[]⟩, .int .i64 0, .int .i64 0, .int .i64 0, .int .i64 0, .slice none 0 0] 73))
      have HP := Lib.hid (Blk.new v0 73 #[.string ⟨#[]⟩, .int .i64 0, .int .i64 0, .int .i64 0, .int .i64 0, .slice none 0 0])
      have hpr : r < v0.heap.size := HR.out.lt
      have hpw : w.heap.size ≤ v0.heap.size := HK.out.size
      clear hK hI HK HR
      have hI := hI'
      have HK := HK'
      have HR := HR'
      clear hI' HK' HR'
      generalize v0.alloc (.cells #[.string ⟨#[]⟩, .int .i64 0, .int .i64 0, .int .i64 0, .int .i64 0, .slice none 0 0] 73) = wa at *
      generalize v0.heap.size = p at *
      refine Flo.br1 (i := 7) (by kernel_rfl) rfl (fun K hK => ?_)
      go_wp2_with fail
      refine (HN.out _ bad d2 hd2 HK.out HR.out).mono ?_
      rintro e w2 ⟨n2, b2, rfl, hn2, hrj, hkj, hv2⟩
      go_wp2_with fail
      have hI' : Blk w2 g 9 #[.string ⟨#[99, 111, 110, 116]⟩, .string d1, .string d2, .string d3, .string d4, .string d5, .string d6, .string d7, .string d8] := HG.out.kept (HK.out.trans hkj) fun he => HG.out.ne_ HRW.out (by decide) he
      refine hK _ _ (fun _ => hI') ?_
      have HK' := Lib.hid (HK.out.trans hkj)
      have HR' := Lib.hid hrj
      have HP' := Lib.hid (HP.out.kept hkj (by omega))
      clear hK hI HK HR hrj hkj HP
      have hI := hI'
      have HK := HK'
      have HR := HR'
      have HP := HP'
      clear hI' HK' HR' HP'
      refine Flo.br1 (i := 12) (by kernel_rfl) rfl (fun K hK => ?_)
      go_wp2_with fail
      refine (HN.out _ b2 d3 hd3 HK.out HR.out).mono ?_
      rintro e w3 ⟨n3, b3, rfl, hn3, hrj, hkj, hv3⟩
      go_wp2_with fail
      have hI' : Blk w3 g 9 #[.string ⟨#[99, 111, 110, 116]⟩, .string d1, .string d2, .string d3, .string d4, .string d5, .string d6, .string d7, .string d8] := HG.out.kept (HK.out.trans hkj) fun he => HG.out.ne_ HRW.out (by decide) he
      refine hK _ _ (fun _ => hI') ?_
      have HK' := Lib.hid (HK.out.trans hkj)
      have HR' := Lib.hid hrj
      have HP' := Lib.hid (HP.out.kept hkj (by omega))
      clear hK hI HK HR hrj hkj HP
      have hI := hI'
      have HK := HK'
      have HR := HR'
      have HP := HP'
      clear hI' HK' HR' HP'
      refine Flo.brF (g := 6) [13] #[true, true, true, true, true, true, true, true, true, true, true, true, true, false, true, true, true, true, false, true, true, true, true, false, false, true, true, true, true, false, false, true, false] (L := #[true, true, true, true, true, true, true, true, true, true, true, true, true, true, true, true, true, true, false, true, true, true, true, false, false, true, true, true, true, false, false, true, false]) (by kernel_rfl) hI ?_
      unfold Flo.wpFs
      simp only [List.map_cons, List.map_nil]
      iterate 1 (apply Flo.op rfl (hI := hI); (· intro v hv K hK; have hc := Blk.cells hv; have hl := Blk.lt hv; clear hv; go_wp2_with fail; all_goals first | exact Flo.noUndef (by with_reducible assumption) | exact hK); (· rfl))
      refine Flo.nil ?_
      refine Flo.br1 (i := 18) (by kernel_rfl) rfl (fun K hK => ?_)
      go_wp2_with fail
      refine (HN.out _ b3 d4 hd4 HK.out HR.out).mono ?_
      rintro e w4 ⟨n4, b4, rfl, hn4, hrj, hkj, hv4⟩
      go_wp2_with fail
      have hI' : Blk w4 g 9 #[.string ⟨#[99, 111, 110, 116]⟩, .string d1, .string d2, .string d3, .string d4, .string d5, .string d6, .string d7, .string d8] := HG.out.kept (HK.out.trans hkj) fun he => HG.out.ne_ HRW.out (by decide) he
      refine hK _ _ (fun _ => hI') ?_
      have HK' := Lib.hid (HK.out.trans hkj)
      have HR' := Lib.hid hrj
      have HP' := Lib.hid (HP.out.kept hkj (by omega))
      clear hK hI HK HR hrj hkj HP
      have hI := hI'
      have HK := HK'
      have HR := HR'
      have HP := HP'
      clear hI' HK' HR' HP'
      refine Flo.br1 (i := 23) (by kernel_rfl) rfl (fun K hK => ?_)
      go_wp2_with fail
      refine (HN.out _ b4 d5 hd5 HK.out HR.out).mono ?_
      rintro e w5 ⟨n5, b5, rfl, hn5, hrj, hkj, hv5⟩
      go_wp2_with fail
      have hI' : Blk w5 g 9 #[.string ⟨#[99, 111, 110, 116]⟩, .string d1, .string d2, .string d3, .string d4, .string d5, .string d6, .string d7, .string d8] := HG.out.kept (HK.out.trans hkj) fun he => HG.out.ne_ HRW.out (by decide) he
      refine hK _ _ (fun _ => hI') ?_
      have HK' := Lib.hid (HK.out.trans hkj)
      have HR' := Lib.hid hrj
      have HP' := Lib.hid (HP.out.kept hkj (by omega))
      clear hK hI HK HR hrj hkj HP
      have hI := hI'
      have HK := HK'
      have HR := HR'
      have HP := HP'
      clear hI' HK' HR' HP'
      refine Flo.brF (g := 3) [24] #[true, true, true, true, true, true, true, true, true, true, true, true, true, true, true, true, true, true, true, true, true, true, true, true, false, true, true, true, true, false, false, true, false] (L := #[true, true, true, true, true, true, true, true, true, true, true, true, true, true, true, true, true, true, true, true, true, true, true, true, true, true, true, true, true, false, false, true, false]) (by kernel_rfl) hI ?_
      unfold Flo.wpFs
      simp only [List.map_cons, List.map_nil]
      iterate 1 (apply Flo.op rfl (hI := hI); (· intro v hv K hK; have hc := Blk.cells hv; have hl := Blk.lt hv; clear hv; go_wp2_with fail; all_goals first | exact Flo.noUndef (by with_reducible assumption) | exact hK); (· rfl))
      refine Flo.nil ?_
      refine Flo.br1 (i := 29) (by kernel_rfl) rfl (fun K hK => ?_)
      go_wp2_with fail
      refine (HND.out _ b5 d6 hd6 HK.out HR.out).mono ?_
      rintro e w6 ⟨nv, nd, b6, rfl, hnd, hrj, hkj, hv6⟩
      obtain ⟨A6, c6, e6, e6a, e6b, _⟩ := hnd.form
      obtain rfl : nv = _ := by simpa using e6
      clear e6
      go_wp2_with fail
      have hI' : Blk w6 g 9 #[.string ⟨#[99, 111, 110, 116]⟩, .string d1, .string d2, .string d3, .string d4, .string d5, .string d6, .string d7, .string d8] := HG.out.kept (HK.out.trans hkj) fun he => HG.out.ne_ HRW.out (by decide) he
      refine hK _ _ (fun _ => hI') ?_
      have HK' := Lib.hid (HK.out.trans hkj)
      have HR' := Lib.hid hrj
      have HP' := Lib.hid (HP.out.kept hkj (by omega))
      clear hK hI HK HR hrj hkj HP
      have hI := hI'
      have HK := HK'
      have HR := HR'
      have HP := HP'
      have HQ := Lib.hid hnd
      clear hnd
      clear hI' HK' HR' HP'
      refine Flo.brF (g := 1) [30] #[true, true, true, true, true, true, true, true, true, true, true, true, true, true, true, true, true, true, true, true, true, true, true, true, true, true, true, true, true, true, false, true, false] (L := #[true, true, true, true, true, true, true, true, true, true, true, true, true, true, true, true, true, true, true, true, true, true, true, true, true, true, true, true, true, true, true, true, false]) (by kernel_rfl) hI ?_
      unfold Flo.wpFs
      simp only [List.map_cons, List.map_nil]
      iterate 1 (apply Flo.op rfl (hI := hI); (· intro v hv K hK; have hc := Blk.cells hv; have hl := Blk.lt hv; clear hv; go_wp2_with fail; all_goals first | exact Flo.noUndef (by with_reducible assumption) | exact hK); (· rfl))
      refine Flo.nil ?_
      have e9 := HP.out.cells
      have f9 := HP.out.frozens
      have l9 := HP.out.lt
      refine Flo.br1 (i := 32) (by kernel_rfl) rfl (fun K hK => ?_)
      go_wp2_with fail
      refine hK _ _ (fun h => absurd h (by omega)) ?_
      refine Flo.brEnd (by kernel_rfl) ?_
      refine hK0 _ _ ?_
      clear hK e9 f9 l9 hK0
      go_meet
      exact ⟨p, n2, n3, n4, n5, nd, A6, c6, b6, rfl, Lib.hid (cont_leaf HP.out HR.out HK.out HQ.out hpr hpw hn2 hn3 hn4 hn5 (ContSp.of hv2 hv3 hv4 hv5 hv6))⟩
  case rest =>
    obtain ⟨p, n2, n3, n4, n5, nd, A6, c6, b6, rfl, HC⟩ := hcut
    clear HK HR
    have hS1 := (HS.out.read HC.out.kept HC.out.rd).drew
    obtain ⟨rc, hrc1, hrc2⟩ := hS1.co
    obtain ⟨A1, c1, hcv, i1, i2, _⟩ := own_form hrc1
    subst hcv
    obtain ⟨hq2, hq3, hfz⟩ := hS1.cell
    have HS1 := Lib.hid hS1
    have HRC1 := Lib.hid hrc1
    have HRC2 := Lib.hid hrc2
    have hKh : KB ≤ wc.heap.size := hS1.high
    have HCT : Hid (ContT wc.drew [.string d1, .int .i64 n2, .int .i64 n3, .int .i64 n4, .int .i64 n5, .slice A6 (List.length nd) c6] ⟨d1, n2, n3, n4, n5, nd⟩) := Lib.hid ⟨_, rfl, by show d1.size ≤ maxLen; unfold maxLen; omega, HC.out.q2, HC.out.q3, HC.out.q4, HC.out.q5, HC.out.rs⟩
    have hbp : Blk wc.drew p 73 #[.string d1, .int .i64 n2, .int .i64 n3, .int .i64 n4, .int .i64 n5, .slice A6 (List.length nd) c6] := HC.out.blk.drew
    have HPC : Hid (∀ q, (Value.slice A1 conts.length c1).ownBlock = some q → p ≠ q) := Lib.hid (fun q hq he => by
      have h1 := (own_ty (HS.out.co.choose_spec.1) hq).1.lt
      have := HC.out.pw
      omega)
    have HWX : Hid (Kept (fun k => k = r) w wc.drew) := Lib.hid HC.out.kept.drew
    have HSP := Lib.hid HC.out.sp
    have HLW : Hid (B ≤ KB) := Lib.hid hS1.low
    have HWB : Hid (Below B w wc.drew) := Lib.hid (HWX.out.below (by have := HBB.out; omega) fun k hk he => by have := HBB.out; omega)
    have hpz := hbp.lt
    clear HC HS hS1 hrc1 hrc2 hI HN HND
    unfold maxLen at i2
    generalize hlcE : conts.length = lc at *
    have HLC := Lib.hid hlcE
    clear hlcE
    generalize hlnE : nd.length = nl at *
    clear hlnE
    generalize hmlE : M.length = ml at *
    have HML := Lib.hid hmlE
    clear hmlE
    have HBP := Lib.hid hbp
    go_upto_region 7 with fail
    have hI : wc.drew.cell? ⟨gh, ml * 4 + 2, none⟩ = some (.slice A1 lc c1) ∧ Blk wc.drew p 73 #[.string d1, .int .i64 n2, .int .i64 n3, .int .i64 n4, .int .i64 n5, .slice A6 nl c6] := ⟨hq2, hbp⟩
    clear hq2 hq3 hbp hfz
    refine Flo.region 12 [(0, true), (1, true), (2, true), (3, true), (4, true), (5, true), (6, true), (7, false), (8, false), (9, true), (10, true), (11, true)] (fun v => v.cell? ⟨gh, ml * 4 + 2, none⟩ = some (.slice A1 lc c1) ∧ Blk v p 73 #[.string d1, .int .i64 n2, .int .i64 n3, .int .i64 n4, .int .i64 n5, .slice A6 nl c6]) (by kernel_rfl) (by kernel_rfl) rfl hI ?_
    simp only [List.drop_succ_cons, List.drop_zero]
    iterate 7 (apply Flo.op rfl (hI := hI); (· intro v hv K hK; obtain ⟨hc1, hc2⟩ := hv; have hc := Blk.cells hc2; have hl := Blk.lt hc2; clear hc2; go_wp2_with fail; all_goals first | exact Flo.noUndef (by with_reducible assumption) | exact hK); (· rfl))
    refine Flo.seq rfl fun K hK => ?_
    go_wp2_with fail
    have HS8 := Lib.hid (HS1.out.alloc (.cells #[.string d1, .int .i64 n2, .int .i64 n3, .int .i64 n4, .int .i64 n5, .slice A6 nl c6] 73))
    have hI8 : (wc.drew.alloc (.cells #[.string d1, .int .i64 n2, .int .i64 n3, .int .i64 n4, .int .i64 n5, .slice A6 nl c6] 73)).cell? ⟨gh, ml * 4 + 2, none⟩ = some (.slice A1 lc c1) ∧ Blk (wc.drew.alloc (.cells #[.string d1, .int .i64 n2, .int .i64 n3, .int .i64 n4, .int .i64 n5, .slice A6 nl c6] 73)) p 73 #[.string d1, .int .i64 n2, .int .i64 n3, .int .i64 n4, .int .i64 n5, .slice A6 nl c6] := ⟨by rw [← HML.out]; exact HS8.out.cell.1, HBP.out.alloc _⟩
    refine hK _ _ hI8 ?_
    clear hK hI hI8
    refine Flo.seq rfl fun K hK => ?_
    refine wpList_app _ contT6 rfl (.tmp 91) (.tmp 93) rfl KB (.slice A1 lc c1) lc (List.flatten rc) rfl (by exact HRC1.out.alloc _) ⟨wc.drew.heap.size, 0, none⟩ 1 1 [.string d1, .int .i64 n2, .int .i64 n3, .int .i64 n4, .int .i64 n5, .slice A6 nl c6] rfl rfl (news_new wc.drew _ _) (by simp [Value.oneCell']) (by omega) (by unfold maxLen; omega) (by omega) (by simp; omega) ?_
    intro g9 c9 w9 hown9 hgr9 hat9 hlt9
    have HS9 : Hid (LS w9 B KB r g gh cap b6 [⟨#[99, 111, 110, 116]⟩, d1, d2, d3, d4, d5, d6, d7, d8] hs M name prio (.slice A1 lc c1) gv (.slice (some ⟨g9, 0, none⟩) (lc + 1) c9) gv (conts ++ [⟨d1, n2, n3, n4, n5, nd⟩]) given) := Lib.hid (by
      have hlcE := HLC.out
      subst hlcE
      exact HS8.out.appC (HRC1.out.alloc _) (HRC2.out.mono fun _ _ _ h => ContT.dat h (Dat.of_below ((Below.refl _ _).alloc (Nat.le_refl _) _))) hgr9 hown9 rfl (ContT.dat HCT.out (Dat.of_below ((Below.refl _ _).alloc (Nat.le_refl _) _))))
    have HB9 : Hid (Below B w w9) := Lib.hid ((HWB.out.alloc (Nat.le_trans HLW.out hKh) _).grown hgr9 (by have := HLW.out; simp; omega) fun q hq => Nat.le_trans HLW.out (HRC1.out.lt q hq).1)
    have hI9 : w9.cell? ⟨gh, ml * 4 + 2, none⟩ = some (.slice A1 lc c1) ∧ Blk w9 p 73 #[.string d1, .int .i64 n2, .int .i64 n3, .int .i64 n4, .int .i64 n5, .slice A6 nl c6] := ⟨by rw [← HML.out]; exact HS9.out.cell.1, (HBP.out.alloc _).grown hgr9 fun he => HPC.out p he.symm rfl⟩
    clear hown9 hgr9 hat9 hlt9
    go_wp2_with fail
    refine hK _ _ hI9 ?_
    iterate 3 (apply Flo.op rfl (hI := hI9); (· intro v hv K hK; obtain ⟨hc1, hc2⟩ := hv; have hc := Blk.cells hc2; have hl := Blk.lt hc2; clear hc2; go_wp2_with fail; all_goals first | exact Flo.noUndef (by with_reducible assumption) | exact hK); (· rfl))
    have q9 := hI9.1
    clear hK hI9 HBP HPC HS8 HRC1 HRC2 HCT HWX HWB HS1
    have z9 := HS9.out.ghb.1.lt
    have f9 := HS9.out.cell.2.2
    refine Flo.tail fun K hK => ?_
    go_upto_region 8 with fail
    have HS10 : Hid (LS (w9.setCell ⟨gh, ml * 4 + 2, none⟩ (.slice (some ⟨g9, 0, none⟩) (lc + 1) c9)).drew B KB r g gh cap b6 [⟨#[99, 111, 110, 116]⟩, d1, d2, d3, d4, d5, d6, d7, d8] hs M name prio (.slice (some ⟨g9, 0, none⟩) (lc + 1) c9) gv (.slice (some ⟨g9, 0, none⟩) (lc + 1) c9) gv (conts ++ [⟨d1, n2, n3, n4, n5, nd⟩]) given) := Lib.hid (by rw [← HML.out]; exact (HS9.out.setC _).drew)
    have HB10 : Hid (Below B w (w9.setCell ⟨gh, ml * 4 + 2, none⟩ (.slice (some ⟨g9, 0, none⟩) (lc + 1) c9)).drew) := Lib.hid ((HB9.out.setCell HS9.out.ghb.2 _).drew)
    clear HS9 HB9 q9 z9 f9
    generalize w9.setCell ⟨gh, ml * 4 + 2, none⟩ (.slice (some ⟨g9, 0, none⟩) (lc + 1) c9) = w10 at *
    obtain ⟨rg0, hrg0, _⟩ := HS10.out.gi
    obtain ⟨A3, c3, hgv, j1, j2, _⟩ := own_form hrg0
    subst hgv
    clear hrg0
    obtain ⟨hq2, hq3, hfz⟩ := HS10.out.cell
    have HLY := Lib.hid (fun W (hb : Below B w W) => HW0.out.trans (hb.mono HH0.out))
    have hbw := HS10.out.wd
    have hKh2 : KB ≤ w10.drew.heap.size := HS10.out.high
    clear hKh
    unfold maxLen at j2
    generalize hlgE : given.length = lg at *
    have HLG := Lib.hid hlgE
    clear hlgE
    rw [HML.out] at hq3
    have hI : w10.drew.cell? ⟨gh, ml * 4 + 3, none⟩ = some (.slice A3 lg c3) ∧ Blk w10.drew g 9 #[.string ⟨#[99, 111, 110, 116]⟩, .string d1, .string d2, .string d3, .string d4, .string d5, .string d6, .string d7, .string d8] := ⟨hq3, hbw⟩
    clear hq2 hq3 hbw hfz
    refine Flo.region 20 [(0, true), (1, true), (2, true), (3, true), (4, true), (5, true), (6, true), (7, true), (8, true), (10, true), (11, true), (12, true), (13, true), (9, false), (14, false), (15, true), (16, false), (17, false), (18, true), (19, true)] (fun v => v.cell? ⟨gh, ml * 4 + 3, none⟩ = some (.slice A3 lg c3) ∧ Blk v g 9 #[.string ⟨#[99, 111, 110, 116]⟩, .string d1, .string d2, .string d3, .string d4, .string d5, .string d6, .string d7, .string d8]) (by kernel_rfl) (by kernel_rfl) rfl hI ?_
    simp only [List.drop_succ_cons, List.drop_zero]
    iterate 13 (apply Flo.op rfl (hI := hI); (· intro v hv K hK; obtain ⟨hc1, hc2⟩ := hv; have hc := Blk.cells hc2; have hl := Blk.lt hc2; clear hc2; go_wp2_with fail; all_goals first | exact Flo.noUndef (by with_reducible assumption) | exact hK); (· rfl))
    refine Flo.seq rfl fun K hK => ?_
    go_wp2_with fail
    refine (HSE.out _ b6 d7 hd7 (HLY.out _ HB10.out) HS10.out.rd).mono ?_
    rintro e w11 ⟨x, b7, rfl, hx11, hr11, hk11, hv7⟩
    go_wp2_with fail
    have HS11 := Lib.hid (HS10.out.read hk11 hr11)
    have HB11 := Lib.hid (HB10.out.trans (hk11.below (Nat.le_trans HS10.out.low HS10.out.high) fun k hk he => by have := HBB.out; omega))
    have hI11 : w11.cell? ⟨gh, ml * 4 + 3, none⟩ = some (.slice A3 lg c3) ∧ Blk w11 g 9 #[.string ⟨#[99, 111, 110, 116]⟩, .string d1, .string d2, .string d3, .string d4, .string d5, .string d6, .string d7, .string d8] := ⟨by rw [← HML.out]; exact HS11.out.cell.2.1, HS11.out.wd⟩
    refine hK _ _ hI11 ?_
    clear hK hI hr11 hk11
    refine Flo.seq rfl fun K hK => ?_
    go_wp2_with fail
    refine (HNS.out _ b7 d8 hd8 (HLY.out _ HB11.out) HS11.out.rd).mono ?_
    rintro e w12 ⟨nv, gd, b8, rfl, hnd, hr12, hk12, hv8⟩
    obtain ⟨A8, c8, e8, e8a, e8b, _⟩ := hnd.form
    obtain rfl : nv = _ := by simpa using e8
    clear e8
    go_wp2_with fail
    have HS12 := Lib.hid (HS11.out.read hk12 hr12)
    have HB12 := Lib.hid (HB11.out.trans (hk12.below (Nat.le_trans HS11.out.low HS11.out.high) fun k hk he => by have := HBB.out; omega))
    have hI12 : w12.cell? ⟨gh, ml * 4 + 3, none⟩ = some (.slice A3 lg c3) ∧ Blk w12 g 9 #[.string ⟨#[99, 111, 110, 116]⟩, .string d1, .string d2, .string d3, .string d4, .string d5, .string d6, .string d7, .string d8] := ⟨by rw [← HML.out]; exact HS12.out.cell.2.1, HS12.out.wd⟩
    refine hK _ _ hI12 ?_
    have HGT : Hid (GivenT w12 [.int .u64 (x : Nat), .slice A8 (List.length gd) c8] ⟨x, gd⟩) := Lib.hid ⟨_, rfl, hx11, hnd⟩
    have HGL := HS12.out.low
    have hK12 : KB ≤ w12.heap.size := HS12.out.high
    obtain ⟨rg, hrg1, hrg2⟩ := HS12.out.gi
    rw [HLG.out] at hrg1
    have HRG1 := Lib.hid hrg1
    have HRG2 := Lib.hid hrg2
    clear hK hI11 hr12 hk12 HS10 HS11 HB10 HB11 hrg1 hrg2 HSE HNS hnd hKh2
    generalize helE : gd.length = el at *
    clear helE
    iterate 1 (apply Flo.op rfl (hI := hI12); (· intro v hv K hK; obtain ⟨hc1, hc2⟩ := hv; have hc := Blk.cells hc2; have hl := Blk.lt hc2; clear hc2; go_wp2_with fail; all_goals first | exact Flo.noUndef (by with_reducible assumption) | exact hK); (· rfl))
    refine Flo.seq rfl fun K hK => ?_
    go_wp2_with fail
    have HS14 := Lib.hid (HS12.out.alloc (.cells #[.int .u64 (x : Nat), .slice A8 el c8] 80))
    have hI14 : (w12.alloc (.cells #[.int .u64 (x : Nat), .slice A8 el c8] 80)).cell? ⟨gh, ml * 4 + 3, none⟩ = some (.slice A3 lg c3) ∧ Blk (w12.alloc (.cells #[.int .u64 (x : Nat), .slice A8 el c8] 80)) g 9 #[.string ⟨#[99, 111, 110, 116]⟩, .string d1, .string d2, .string d3, .string d4, .string d5, .string d6, .string d7, .string d8] := ⟨by rw [← HML.out]; exact HS14.out.cell.2.1, HS14.out.wd⟩
    refine hK _ _ hI14 ?_
    clear hK hI12 hI14
    refine Flo.seq rfl fun K hK => ?_
    refine wpList_app _ givenT2 rfl (.tmp 102) (.tmp 114) rfl KB (.slice A3 lg c3) lg (List.flatten rg) rfl (by exact HRG1.out.alloc _) ⟨w12.heap.size, 0, none⟩ 1 1 [.int .u64 (x : Nat), .slice A8 el c8] rfl rfl (news_new w12 _ _) (by simp [Value.oneCell']) (by omega) (by unfold maxLen; omega) (by omega) (by simp; omega) ?_
    intro g13 c13 w13 hown13 hgr13 hat13 hlt13
    have HS13 : Hid (LS w13 B KB r g gh cap b8 [⟨#[99, 111, 110, 116]⟩, d1, d2, d3, d4, d5, d6, d7, d8] hs M name prio (.slice (some ⟨g9, 0, none⟩) (lc + 1) c9) (.slice A3 lg c3) (.slice (some ⟨g9, 0, none⟩) (lc + 1) c9) (.slice (some ⟨g13, 0, none⟩) (lg + 1) c13) (conts ++ [⟨d1, n2, n3, n4, n5, nd⟩]) (given ++ [⟨x, gd⟩])) := Lib.hid (by
      have hlgE := HLG.out
      subst hlgE
      exact HS14.out.appG (HRG1.out.alloc _) (HRG2.out.mono fun _ _ _ h => GivenT.dat h (Dat.of_below ((Below.refl _ _).alloc (Nat.le_refl _) _))) hgr13 hown13 rfl (GivenT.dat HGT.out (Dat.of_below ((Below.refl _ _).alloc (Nat.le_refl _) _))))
    have HB13 : Hid (Below B w w13) := Lib.hid ((HB12.out.alloc (Nat.le_trans HLW.out hK12) _).grown hgr13 (by have := HLW.out; simp; omega) fun q hq => Nat.le_trans HLW.out (HRG1.out.lt q hq).1)
    have hI13 : w13.cell? ⟨gh, ml * 4 + 3, none⟩ = some (.slice A3 lg c3) ∧ Blk w13 g 9 #[.string ⟨#[99, 111, 110, 116]⟩, .string d1, .string d2, .string d3, .string d4, .string d5, .string d6, .string d7, .string d8] := ⟨by rw [← HML.out]; exact HS13.out.cell.2.1, HS13.out.wd⟩
    clear hown13 hgr13 hat13 hlt13
    go_wp2_with fail
    refine hK _ _ hI13 ?_
    iterate 2 (apply Flo.op rfl (hI := hI13); (· intro v hv K hK; obtain ⟨hc1, hc2⟩ := hv; have hc := Blk.cells hc2; have hl := Blk.lt hc2; clear hc2; go_wp2_with fail; all_goals first | exact Flo.noUndef (by with_reducible assumption) | exact hK); (· rfl))
    have q13 := hI13.1
    clear hK hI13 HS14 HRG1 HRG2 HGT HS12 HB12
    have z13 := HS13.out.ghb.1.lt
    have f13 := HS13.out.cell.2.2
    have HFIN : Hid (∀ e, e = Ending.returned (.slice (some ⟨gh, 0, none⟩) (ml + 1) cap) → LineR B r bad (M ++ [⟨⟨name, prio, conts⟩, given⟩]) [⟨#[99, 111, 110, 116]⟩, d1, d2, d3, d4, d5, d6, d7, d8] w e (w13.setCell ⟨gh, ml * 4 + 3, none⟩ (.slice (some ⟨g13, 0, none⟩) (lg + 1) c13))) := Lib.hid (fun e he => by
      rw [← HML.out] at he ⊢
      have hL := HS13.out.setG (.slice (some ⟨g13, 0, none⟩) (lg + 1) c13)
      exact ⟨_, _, b8, he, hL.pw HNM.out HPR.out, hL.rd, HB13.out.setCell HS13.out.ghb.2 _, fun c h => h.cont _ _, cont_spec2 HSP.out hv7 hv8⟩)
    clear hv7 hv8 HSP HS13 HB13 HPR HNM
    refine Flo.tail fun K hK => ?_
    go_wp2_with fail
    go_ret
    exact HFIN.out _ rfl
end
end Go.Proofs.YticmfflnenoplacGreatDoor
namespace Go.Proofs.YticmfflnenoplacGreatDoor
open Go.RowKit Go.Deep Pop Bi Da Sv Qo
namespace Sv
/-- What the loop of lines knows. -/
def SpecI (t : List UInt8) (L : List Held) (rest : List UInt8) (b : Bool) : Prop :=
  ∀ l0, IsText t l0 → b = false ∧ ∃ j, j ≤ (itemsL l0).length ∧ rest = linesT (((itemsL l0).drop j).map itemW) ∧ L = ((itemsL l0).take j).foldl putI []
theorem spec_start {t : List UInt8} {k : Nat} (hk : Lib.lastIndex t wSum = (k : Int)) : SpecI t [] (t.take k) false := by
  intro l0 h
  refine ⟨rfl, 0, Nat.zero_le _, ?_, rfl⟩
  obtain ⟨h1, h2, _⟩ := summed_cut (b := bodyT l0) h.2.2.symm
  have : k = (bodyT l0).length := by omega
  rw [this, h2, List.drop_zero, ← itemsW]
  rfl
theorem putI_ne {L : List Held} (h : L ≠ []) (i : Sv.Item) : putI L i ≠ [] := by
  cases i with
  | pod n p => simp [putI]
  | cont c g =>
    rcases List.eq_nil_or_concat L with rfl | ⟨M, x, rfl⟩
    · exact absurd rfl h
    · simp [putI]
theorem foldI_ne : ∀ (I : List Sv.Item) (L : List Held), L ≠ [] → I.foldl putI L ≠ []
  | [], _, h => h
  | i :: I, _, h => foldI_ne I _ (putI_ne h i)
theorem items_head (l : List Held) (j : Nat) (hj : j < (itemsL l).length) (hc : ∃ c g, (itemsL l)[j] = .cont c g) : ((itemsL l).take j).foldl putI [] ≠ [] := by
  cases l with
  | nil => simp [itemsL] at hj
  | cons h l =>
    have e : itemsL (h :: l) = Item.pod h.pod.name h.pod.prio :: (List.zipWith Item.cont h.pod.conts h.given ++ itemsL l) := by simp [itemsL, itemsH]
    cases j with
    | zero =>
      obtain ⟨c, g, hc⟩ := hc
      have : (itemsL (h :: l))[0]? = some (Item.cont c g) := by rw [List.getElem?_eq_getElem hj, hc]
      rw [e] at this
      simp at this
    | succ j =>
      rw [e, List.take_succ_cons, List.foldl_cons]
      exact foldI_ne _ _ (by simp [putI])
theorem spec_fine {l0 : List Held} {t : List UInt8} (h : IsText t l0) : ∀ i ∈ itemsL l0, FineI i := items_fine fun x hx => ⟨(fine_held h.1).2 x hx, h.2.1 x hx⟩
theorem spec_step {t : List UInt8} {L L' : List Held} {rest : List UInt8} {b b' : Bool} {D : List ByteArray} (h : SpecI t L rest b) (hr : rest ≠ []) (hD : D.map (fun b : ByteArray => b.data.toList) = Lib.split (Lib.cut rest [10]).1 [32])
    (hl : ∀ i : Sv.Item, FineI i → D.map (fun b : ByteArray => b.data.toList) = itemW i → ((∃ c g, i = .cont c g) → L ≠ []) → L' = putI L i ∧ b' = b) : SpecI t L' (Lib.cut rest [10]).2.1 b' := by
  intro l0 ht
  obtain ⟨hb, j, hj, e1, e2⟩ := h l0 ht
  have hjl : j < (itemsL l0).length := by
    rcases Nat.lt_or_ge j (itemsL l0).length with h | h
    · exact h
    · rw [List.drop_eq_nil_of_le h] at e1
      exact absurd e1 hr
  have hf := spec_fine ht _ (List.getElem_mem hjl)
  rw [List.drop_eq_getElem_cons hjl, List.map_cons, linesT] at e1
  have hc := item_cut hf (linesT (((itemsL l0).drop (j + 1)).map itemW))
  rw [e1, hc] at hD ⊢
  dsimp only at hD ⊢
  rw [item_words hf] at hD
  obtain ⟨h1, h2⟩ := hl _ hf hD fun hx => by rw [e2]; exact items_head l0 j hjl hx
  refine ⟨by rw [h2, hb], j + 1, hjl, rfl, ?_⟩
  rw [h1, e2, List.take_succ_eq_append_getElem hjl, List.foldl_append]
  rfl
theorem spec_end {t : List UInt8} {L : List Held} {b : Bool} (h : SpecI t L [] b) : ∀ l0, IsText t l0 → b = false ∧ L = l0 := by
  intro l0 ht
  obtain ⟨hb, j, hj, e1, e2⟩ := h l0 ht
  have hj' : (itemsL l0).drop j = [] := by
    cases hd : (itemsL l0).drop j with
    | nil => rfl
    | cons i r => rw [hd] at e1; simp [linesT] at e1
  have : (itemsL l0).take j = itemsL l0 := by
    rw [List.drop_eq_nil_iff] at hj'
    exact List.take_of_length_le hj'
  rw [this, put_all l0 [] fun x hx => ((fine_held ht.1).2 x hx).len] at e2
  exact ⟨hb, by rw [e2]; rfl⟩
theorem cut_less {l : List UInt8} (h : l ≠ []) : (Lib.cut l [10]).2.1.length + 1 ≤ l.length := by
  have hp : 0 < l.length := List.length_pos_iff.2 h
  unfold Lib.cut
  split
  · simp only [List.length_drop, List.length_cons, List.length_nil]
    omega
  · simp only [List.length_nil]
    omega
theorem sum_at {t : List UInt8} {k : Nat} (hk : Lib.lastIndex t wSum = (k : Int)) : SumOk t ↔ t.drop k = sumT (sumP (t.take k)) := by
  constructor
  · rintro ⟨b, hb⟩
    obtain ⟨h1, h2, h3⟩ := summed_cut hb
    have : k = b.length := by omega
    rw [this, h2, h3]
  · intro h
    exact ⟨t.take k, by rw [summed, ← h, List.take_append_drop]⟩
theorem sum_neg {t : List UInt8} (hk : Lib.lastIndex t wSum < 0) : ¬ SumOk t := by
  rintro ⟨b, hb⟩
  have := (summed_cut hb).1
  omega
theorem last_le {t : List UInt8} {k : Nat} (hk : Lib.lastIndex t wSum = (k : Int)) : k ≤ t.length := by
  unfold Lib.lastIndex at hk
  split at hk
  · rcases Lib.lastOcc_spec t wSum (t.length - wSum.length + 1) with ⟨e, _⟩ | ⟨i, hi, e, _⟩
    · omega
    · omega
  · omega
end Sv
/-- What a text read comes to. -/
def ParseP (t : List UInt8) (w : World) (e : Ending) (w' : World) : Prop := ∃ v, e = .returned (.tuple #[v, errV (parseF t)]) ∧ HeldsT w' v (parseL t) ∧ Below w.heap.size w w'
theorem ParseP.bad {t : List UInt8} {w w' : World} {f : Int} (h : parseF t = f ∧ parseL t = []) (hf : f ≠ 0) (hb : Below w.heap.size w w') : ParseP t w (.returned (.tuple #[.slice none 0 0, .iface 117 (.int .i64 f)])) w' :=
  ⟨_, by rw [h.1, errV_pos f hf], by rw [h.2]; exact HeldsT.nil _ _ _ (by simp [maxLen]), hb⟩
/-- A line of words. -/
theorem rline_any (W0 : World) (hL : LayS W0) (B r g : Nat) (h0 : W0.heap.size ≤ B) (bad : Bool) (v : Value) (L : List Held) (D : List ByteArray) (w : World) (hW : Below W0.heap.size W0 w) (hr : Blk w r 188 #[.bool bad]) (hB : B ≤ r) (hP : PW w B v L) (hg : Blk w g 9 (D.map Value.string).toArray) (hD : D.length ≤ 10000)
    (hd : ∀ d ∈ D, d.size ≤ 7000) (hlim : Lim 10000 L) :
    Calls Tryz.prog 100 #[.pointer (some ⟨r, 0, none⟩), v, .slice (some ⟨g, 0, none⟩) D.length D.length] w (LineR B r bad L D w) := by
  by_cases hp : D.length = 3 ∧ D.head? = some ⟨#[112, 111, 100]⟩
  · match D, hp, hd, hg with
    | [d0, d1, d2], hp, hd, hg =>
      obtain rfl : d0 = ⟨#[112, 111, 100]⟩ := by simpa using hp.2
      exact rline_pod W0 hL B r g (Nat.le_trans h0 hB) bad v L d1 d2 w hW hr hB hP hg (hd d1 (by simp)) (hd d2 (by simp)) hlim.1
    | [], hp, _, _ => simp at hp
    | [_], hp, _, _ => simp at hp
    | [_, _], hp, _, _ => simp at hp
    | _ :: _ :: _ :: _ :: _, hp, _, _ => simp at hp
  · by_cases hc : D.length = 9 ∧ D.head? = some ⟨#[99, 111, 110, 116]⟩ ∧ L ≠ []
    · match D, hc, hd, hg with
      | [d0, d1, d2, d3, d4, d5, d6, d7, d8], hc, hd, hg =>
        obtain rfl : d0 = ⟨#[99, 111, 110, 116]⟩ := by simpa using hc.2.1
        exact rline_cont W0 hL B r g h0 bad v L d1 d2 d3 d4 d5 d6 d7 d8 w hW hr hB hP hc.2.2 hg (hd _ (by simp)) (hd _ (by simp)) (hd _ (by simp)) (hd _ (by simp)) (hd _ (by simp)) (hd _ (by simp)) (hd _ (by simp)) (hd _ (by simp)) hlim
      | [], hc, _, _ => simp at hc
      | [_], hc, _, _ => simp at hc
      | [_, _], hc, _, _ => simp at hc
      | [_, _, _], hc, _, _ => simp at hc
      | [_, _, _, _], hc, _, _ => simp at hc
      | [_, _, _, _, _], hc, _, _ => simp at hc
      | [_, _, _, _, _, _], hc, _, _ => simp at hc
      | [_, _, _, _, _, _, _], hc, _, _ => simp at hc
      | [_, _, _, _, _, _, _, _], hc, _, _ => simp at hc
      | _ :: _ :: _ :: _ :: _ :: _ :: _ :: _ :: _ :: _ :: _, hc, _, _ => simp at hc
    · exact rline_bad B r g bad v L D w hr hB hP hg hD hp hc
def strLen : Value → Nat
  | .string s => s.size
  | _ => 0
theorem PW.empty (w : World) (B : Nat) : PW w B (.slice none 0 0) [] := .inl ⟨rfl, none, 0, by simp [maxLen], rfl, World.ownsRow_nil _ _ _ _⟩
theorem Lim.mono {c d : Nat} {L : List Held} (h : Lim c L) (hd : c ≤ d) : Lim d L := ⟨by have := h.1; omega, fun x hx => by have := h.2 x hx; omega⟩
theorem Lim.zero (c : Nat) : Lim c [] := ⟨by simp, fun x hx => by simp at hx⟩
section
attribute [local irreducible] parseF parseL SpecI Lib.cut Lib.split Lib.lastIndex wordsC sumP textH heldFault Lib.itoa sumT LineR Lim PW
set_option maxRecDepth 100000 in
set_option maxHeartbeats 8000000 in
theorem SParse_any (s : ByteArray) (hs : s.size ≤ maxLen) (w : World) (hL : LayS w) : Calls Tryz.prog 52 #[.string s] w (ParseP s.data.toList w) := by
  unfold maxLen at hs
  by_cases h6 : 6000 < s.size
  · have HF := Lib.hid (parse_long (t := s.data.toList) (by rw [size_data]; exact h6))
    clear hL
    go_enter Tryz.func52, Tryz.ntmps52
    go_wp2_with fail
    go_ret2
    exact ParseP.bad HF.out (by omega) (Below.refl _ _)
  · have hsz : ¬ 6000 < s.data.toList.length := by rw [size_data]; exact h6
    have HLI : Hid (Calls Tryz.prog 98 #[.string s, .string ⟨#[115, 117, 109, 32]⟩] w fun e w' => e = .returned (.int .i64 (Lib.lastIndex s.data.toList wSum)) ∧ w' = w) := Lib.hid (Tryz.strings_LastIndex s ⟨#[115, 117, 109, 32]⟩ (by omega) w)
    rcases Int.lt_or_le (Lib.lastIndex s.data.toList wSum) 0 with hneg | hpos
    · have HF := Lib.hid (parse_nosum hsz (sum_neg hneg))
      generalize Lib.lastIndex s.data.toList wSum = at_ at *
      clear hL hsz
      go_enter Tryz.func52, Tryz.ntmps52
      go_wp2_with fail
      refine HLI.out.mono ?_
      rintro e w1 ⟨rfl, rfl⟩
      go_upto_region 4 with fail
      have hI : Below w1.heap.size w1 w1.drew := (Below.refl _ _).drew
      refine Flo.region 16 [(0, true), (1, true), (2, true), (3, true), (4, true), (5, true), (6, true), (7, true), (8, true), (9, true), (10, true), (11, true), (12, true), (13, true), (14, true), (15, true)] (fun v => Below w1.heap.size w1 v) (by kernel_rfl) (by kernel_rfl) rfl hI ?_
      simp only [List.drop_succ_cons, List.drop_zero]
      iterate 16 (apply Flo.op rfl (hI := hI); (· intro v hv K hK; obtain ⟨hc, hf⟩ := Flo.bcl hv; go_wp2_with fail; all_goals first | exact Flo.noUndef (by with_reducible assumption) | exact hK); (· rfl))
      refine Flo.tail fun K hK => ?_
      go_wp2_with fail
      go_ret2
      exact ParseP.bad HF.out (by omega) hI
    · obtain ⟨k, hk⟩ : ∃ k : Nat, Lib.lastIndex s.data.toList wSum = (k : Int) := ⟨_, (Int.toNat_of_nonneg hpos).symm⟩
      have hks := last_le hk
      rw [size_data] at hks
      have HAT := Lib.hid (sum_at hk)
      have HSP0 := Lib.hid (spec_start hk)
      have HNS : Hid (¬ SumOk s.data.toList → parseF s.data.toList = 12 ∧ parseL s.data.toList = []) := Lib.hid (parse_nosum hsz)
      have HNO : Hid (SumOk s.data.toList → (¬ ∃ l, IsText s.data.toList l) → parseF s.data.toList = 4 ∧ parseL s.data.toList = []) := Lib.hid (parse_none hsz)
      have HYE : Hid (∀ l, IsText s.data.toList l → parseF s.data.toList = 0 ∧ parseL s.data.toList = l) := Lib.hid (fun l h => parse_some hsz h)
      have HL := Lib.hid hL
      rw [hk] at HLI
      have h6' : s.size ≤ 6000 := by omega
      clear hL hsz hk hpos h6 hs
      have hE1 : (s.extract 0 k).data.toList = s.data.toList.take k := by rw [ext_data]; rfl
      have hE2 : (s.extract k s.size).data.toList = s.data.toList.drop k := by rw [ext_data, ← size_data, List.take_length]
      have hz1 : (s.extract 0 k).size ≤ 1000000 := by rw [ByteArray.size_extract]; omega
      have HSU : Hid (∀ W, Calls Tryz.prog 95 #[.string (s.extract 0 k)] W (fun e w' => e = .returned (.int .u32 (sumP (s.data.toList.take k) : Nat)) ∧ w' = W)) := Lib.hid (fun W => by rw [← hE1]; exact Sum_any _ hz1 W)
      have hqb := sumP_lt (s.data.toList.take k)
      have HE1 := Lib.hid hE1
      have HCM : Hid (∀ q : Nat, ((s.extract k s.size).toList == (toB (sumT q)).toList) = decide (s.data.toList.drop k = sumT q)) := Lib.hid (fun q => by rw [data_list, data_list, hE2, toB_list, Bool.eq_iff_iff]; simp)
      clear hE1 hE2 hz1
      generalize sumP (s.data.toList.take k) = q at *
      have HFU : Hid (∀ W, Below w.heap.size w W → Calls Tryz.prog 94 #[.int .u64 q, .int .i64 10] W (RetT (Lib.itoa (q : Int)) W)) := Lib.hid (fun W hW => FormatUint_any q (by omega) W (HL.out.below hW))
      have hqi := itoa_16 (n := (q : Int)) (by omega) (by omega)
      have HST0 : Hid (sumT q = wSum ++ Lib.itoa (q : Int) ++ [10]) := Lib.hid (by unfold sumT; rfl)
      obtain ⟨tq, htq⟩ : ∃ tq, tq = Lib.itoa (q : Int) := ⟨_, rfl⟩
      rw [← htq] at HFU hqi HST0
      clear htq
      have HST : Hid ((⟨#[115, 117, 109, 32]⟩ : ByteArray) ++ ⟨tq.toArray⟩ ++ ⟨#[10]⟩ = toB (sumT q)) := Lib.hid (toB_eq (by rw [HST0.out]; simp only [str_add, List.append_assoc, List.cons_append]; rfl))
      go_enter Tryz.func52, Tryz.ntmps52
      go_wp2_with fail
      refine HLI.out.mono ?_
      rintro e w1 ⟨rfl, rfl⟩
      go_upto_region 4 with fail
      have hI : Below w1.heap.size w1 w1.drew := (Below.refl _ _).drew
      refine Flo.region 16 [(0, true), (1, true), (2, true), (3, true), (4, true), (5, true), (6, true), (7, true), (8, true), (9, false), (10, true), (11, false), (12, true), (13, true), (14, true), (15, true)] (fun v => Below w1.heap.size w1 v) (by kernel_rfl) (by kernel_rfl) rfl hI ?_
      simp only [List.drop_succ_cons, List.drop_zero]
      iterate 9 (apply Flo.op rfl (hI := hI); (· intro v hv K hK; obtain ⟨hc, hf⟩ := Flo.bcl hv; go_wp2_with fail; all_goals first | exact Flo.noUndef (by with_reducible assumption) | exact hK); (· rfl))
      refine Flo.seq rfl fun K hK => ?_
      go_wp2_with fail
      refine (HSU.out _).mono ?_
      rintro e w3 ⟨rfl, rfl⟩
      go_wp2_with fail
      refine hK _ _ hI ?_
      clear hK
      iterate 1 (apply Flo.op rfl (hI := hI); (· intro v hv K hK; obtain ⟨hc, hf⟩ := Flo.bcl hv; go_wp2_with fail; all_goals first | exact Flo.noUndef (by with_reducible assumption) | exact hK); (· rfl))
      refine Flo.seq rfl fun K hK => ?_
      go_wp2_with fail
      refine (HFU.out _ hI).mono ?_
      rintro e w4 ⟨rfl, hb4⟩
      go_wp2_with fail
      have hI4 : Below w1.heap.size w1 w4 := hI.trans (hb4.mono hI.size)
      refine hK _ _ hI4 ?_
      clear hK
      iterate 2 (apply Flo.op rfl (hI := hI4); (· intro v hv K hK; obtain ⟨hc, hf⟩ := Flo.bcl hv; go_wp2_with fail; all_goals first | exact Flo.noUndef (by with_reducible assumption) | exact hK); (· rfl))
      rw [HST.out]
      iterate 2 (apply Flo.op rfl (hI := hI4); (· intro v hv K hK; obtain ⟨hc, hf⟩ := Flo.bcl hv; go_wp2_with fail; all_goals first | exact Flo.noUndef (by with_reducible assumption) | exact hK); (· rfl))
      clear hI hb4
      refine Flo.tail fun K hK => ?_
      have hcm := HCM.out q
      have HI4 := Lib.hid hI4
      clear HCM HST HST0 HFU HSU hI4
      have hkn : decide ((k : Int) < 0) = false := decide_eq_false (by omega)
      rw [hkn, Bool.false_or]
      obtain ⟨cm, hcmE⟩ : ∃ cm, cm = !((s.extract k s.size).toList == (toB (sumT q)).toList) := ⟨_, rfl⟩
      rw [hcm] at hcmE
      rw [hcm, ← hcmE]
      clear hcm
      cases hd : decide (s.data.toList.drop k = sumT q)
      · have HF := Lib.hid (HNS.out (fun h => by have := HAT.out.1 h; rw [decide_eq_false_iff_not] at hd; exact hd this))
        obtain rfl : cm = true := by rw [hcmE, hd]; rfl
        clear hcmE
        clear hd HAT HNS HNO HYE
        go_wp2_with fail
        go_ret2
        exact ParseP.bad HF.out (by omega) HI4.out
      · have HOK : Hid (SumOk s.data.toList) := Lib.hid (HAT.out.2 (by simpa using hd))
        have HNN := Lib.hid (HNO.out HOK.out)
        obtain rfl : cm = false := by rw [hcmE, hd]; rfl
        clear hcmE
        clear hd HAT HNS HNO
        rw [← HE1.out] at HSP0
        have hrs : (s.extract 0 k).size ≤ 6000 := by rw [ByteArray.size_extract]; omega
        clear HE1
        go_upto_region 9 with fail
        have hR0 := Blk.new w4 188 #[.bool false]
        have HB5 : Hid (Below w1.heap.size w1 (w4.alloc (.cells #[.bool false] 188))) := Lib.hid (HI4.out.alloc HI4.out.size _)
        have hz5 := hR0.lt
        have hw14 := HI4.out.size
        generalize w4.alloc (.cells #[.bool false] 188) = w5 at *
        generalize w4.heap.size = r at *
        have HR0 := Lib.hid hR0
        have HP0 : Hid (PW w5 r (.slice none 0 0) []) := Lib.hid (PW.empty w5 r)
        have HM0 := Lib.hid (Lim.zero 0)
        clear hR0 HI4
        go_loopw [6, 7] (fun v rs wi => ∃ (L : List Held) (b : Bool) (rest : ByteArray) (c : Nat), rs = .string rest ∧ rest.size + c ≤ 6000 ∧ Hid (PW wi r v L) ∧ Hid (SpecI s.data.toList L rest.data.toList b) ∧ Hid (Blk wi r 188 #[.bool b]) ∧ Hid (Below r w5 wi) ∧ Hid (Lim c L)) (fun _ rs _ => strLen rs)
        case atStart => exact ⟨[], false, _, 0, rfl, by omega, HP0, HSP0, HR0, Lib.hid (Below.refl _ _), HM0⟩
        case round =>
          clear HP0 HSP0 HR0 HM0 hrs
          obtain ⟨L, b, rest, c, rfl, hc, HP, HSI, HR, HBW, HLM⟩ := hrel
          have HWW : Hid (Below w1.heap.size w1 wr) := Lib.hid (HB5.out.trans (HBW.out.mono hw14))
          by_cases h0 : rest.data.toList = []
          · obtain rfl : rest = ⟨#[]⟩ := Go.WideShapes.bytes_inj (by rw [h0])
            have HEN := Lib.hid (spec_end HSI.out)
            have HTX := Lib.hid (SText_any L _ wr.heap.size wr (Nat.le_refl _) (HeldsT.to (PW.toT HP.out)) (HL.out.below HWW.out))
            clear h0 HSI HLM
            go_wp2_with fail
            refine HTX.out.mono ?_
            rintro e w7 ⟨hcase, hb7⟩
            have hr7 := HR.out.below hb7 HR.out.lt
            have HW7 := Lib.hid (HWW.out.trans (hb7.mono HWW.out.size))
            have HT7 := Lib.hid (HeldsT.dat (PW.toT HP.out) (Dat.of_below hb7))
            have e7 := hr7.cells
            have z7 := hr7.lt
            clear HTX HP HR HWW
            cases b
            · rcases hcase with ⟨hf, rfl⟩ | ⟨hf, rfl⟩
              · have HF := Lib.hid (HNN.out (by
                  rintro ⟨l, hl⟩
                  obtain ⟨_, h2⟩ := HEN.out l hl
                  exact hf (h2 ▸ hl.1)))
                have HEV := Lib.hid (errV_pos _ hf)
                rw [HEV.out]
                clear HNN HYE HEN
                go_wp2_with fail
                go_ret2
                exact ParseP.bad HF.out (by omega) HW7.out
              · obtain ⟨T, hT⟩ : ∃ T : ByteArray, T = ⟨(textH L).toArray⟩ := ⟨_, rfl⟩
                rw [← hT]
                have hTE := beq_data (s := s) hT
                have hfit := fit_of (HeldsT.to HT7.out)
                clear hT
                cases hd : decide (textH L = s.data.toList)
                · rw [hd] at hTE
                  have HF := Lib.hid (HNN.out (by
                    rintro ⟨l, hl⟩
                    obtain ⟨_, h2⟩ := HEN.out l hl
                    rw [decide_eq_false_iff_not] at hd
                    exact hd (h2 ▸ hl.2.2)))
                  clear HNN HYE HEN hd
                  go_wp2_with fail
                  go_ret2
                  exact ParseP.bad HF.out (by omega) HW7.out
                · rw [hd] at hTE
                  have HF := Lib.hid (HYE.out L ⟨hf, hfit, by simpa using hd⟩)
                  clear HNN HYE HEN hd
                  go_wp2_with fail
                  go_ret2
                  exact ⟨_, by rw [HF.out.1]; rfl, by rw [HF.out.2]; exact HT7.out, HW7.out⟩
            · have HF := Lib.hid (HNN.out (by
                rintro ⟨l, hl⟩
                have := (HEN.out l hl).1
                cases this))
              clear HNN HYE HEN
              rcases hcase with ⟨hf, rfl⟩ | ⟨hf, rfl⟩
              · go_wp2_with fail
                go_ret2
                exact ParseP.bad HF.out (by omega) HW7.out
              · go_wp2_with fail
                go_ret2
                exact ParseP.bad HF.out (by omega) HW7.out
          · have hE : rest.toList.isEmpty = false := by
              rw [data_list]
              cases hh : rest.data.toList with
              | nil => exact absurd hh h0
              | cons a l => rfl
            have hE2 : ¬ rest.toList = [] := by rw [data_list]; exact h0
            have HST := Lib.hid (fun L' b' hl => spec_step (L' := L') (b' := b') (D := wordsC 32 ⟨(Lib.cut rest.data.toList [10]).1.toArray⟩) HSI.out h0 (wordsC_data 32 _) hl)
            have HCUT : Hid (Calls Tryz.prog 99 #[.string rest, .string ⟨#[10]⟩] wr (fun e w' => e = .returned (.tuple #[.string ⟨(Lib.cut rest.data.toList [10]).1.toArray⟩, .string ⟨(Lib.cut rest.data.toList [10]).2.1.toArray⟩, .bool (Lib.cut rest.data.toList [10]).2.2]) ∧ Below wr.heap.size wr w')) := Lib.hid (cut_any rest ⟨#[10]⟩ (by omega) wr (HL.out.below HWW.out).lay)
            have hcl := cut_le rest.data.toList 10
            have hless := cut_less h0
            rw [size_data] at hcl hless
            have hrpos : 0 < rest.size := by
              rw [← size_data]
              exact List.length_pos_iff.2 h0
            clear h0 HSI
            generalize (Lib.cut rest.data.toList [10]).1 = x1 at *
            generalize (Lib.cut rest.data.toList [10]).2.1 = x2 at *
            generalize (Lib.cut rest.data.toList [10]).2.2 = xb at *
            obtain ⟨hc1, hc2⟩ := hcl
            have hx1 : (⟨x1.toArray⟩ : ByteArray).size ≤ 7000 := by rw [size_list]; omega
            have hx2 : (⟨x2.toArray⟩ : ByteArray).size = x2.length := size_list x2
            go_wp2_with fail
            refine HCUT.out.mono ?_
            rintro e w6 ⟨rfl, hb6⟩
            have HW6 := Lib.hid (HWW.out.trans (hb6.mono HWW.out.size))
            have HSP := Lib.hid (split_words 32 ⟨x1.toArray⟩ hx1 w6 (HL.out.below HW6.out))
            have HR6 := Lib.hid (HR.out.below hb6 HR.out.lt)
            have HP6 := Lib.hid (HP.out.kept (Kept.of_below hb6 (S := fun _ => False)) (fun _ _ _ _ h => h))
            have HB6 := Lib.hid (HBW.out.trans (hb6.mono (by have := HR.out.lt; omega)))
            have hfew := wordsC_few 32 ⟨x1.toArray⟩
            have HDL := Lib.hid (wordsC_le 32 ⟨x1.toArray⟩)
            clear HCUT HR HP HBW HWW hb6
            generalize wordsC 32 ⟨x1.toArray⟩ = D at *
            go_wp2_with fail
            refine HSP.out.mono ?_
            rintro e w8 ⟨rfl, rfl⟩
            have HG8 := Lib.hid (Blk.new w6 9 (D.map Value.string).toArray)
            have HR8 := Lib.hid (HR6.out.alloc (.cells (D.map Value.string).toArray 9))
            have HP8 := Lib.hid (HP6.out.kept (S := fun _ => False) ((Kept.refl _ _).alloc (.cells (D.map Value.string).toArray 9)) (fun _ _ _ _ h => h))
            have hrw6 := HR6.out.lt
            have HB8 := Lib.hid (HB6.out.alloc (by omega) (.cells (D.map Value.string).toArray 9))
            have HW8 := Lib.hid (HW6.out.alloc HW6.out.size (.cells (D.map Value.string).toArray 9))
            clear HSP HR6 HP6 HB6 HW6
            generalize w6.alloc (.cells (D.map Value.string).toArray 9) = w9 at *
            generalize w6.heap.size = g at *
            have HLN := Lib.hid (rline_any w1 HL.out r r g hw14 b _ L D w9 HW8.out HR8.out (Nat.le_refl _) HP8.out HG8.out (by omega) (fun d hd => Nat.le_trans (HDL.out d hd) hx1) (HLM.out.mono (by omega)))
            clear HDL HP8 HR8 HG8
            go_wp2_with fail
            refine HLN.out.mono ?_
            intro e w10 hLR
            unfold LineR at hLR
            obtain ⟨v10, L10, b10, rfl, hp10, hr10, hb10, hl10, hs10⟩ := hLR
            have HP10 := Lib.hid hp10
            have HR10 := Lib.hid hr10
            have HB10 := Lib.hid (HB8.out.trans hb10)
            have HM10 := Lib.hid (hl10 c HLM.out)
            have HS10 : Hid (SpecI s.data.toList L10 (⟨x2.toArray⟩ : ByteArray).data.toList b10) := Lib.hid (HST.out _ _ hs10)
            clear hp10 hr10 hb10 hl10 hs10 HLN HST HLM HB8 HW8
            go_wp2_with fail
            go_roundw
            case rel => exact ⟨L10, b10, _, c + 1, rfl, by omega, HP10, HS10, HR10, HB10, HM10⟩
            case measure => simp [strLen]; omega
end
end Go.Proofs.YticmfflnenoplacGreatDoor
namespace Go.Proofs.YticmfflnenoplacGreatDoor
open Go.RowKit Go.Deep Pop Bi Da Sv Qo Dk
namespace Sv
/-- The disk behind so many steps of saving, and what the last one answered. -/
def stg (s : St) (t : ByteArray) : Nat → Int × St
  | 0 => (0, s)
  | 1 => writeS s t
  | 2 => syncS (writeS s t).2
  | 3 => moveS (syncS (writeS s t).2).2
  | _ => syncS (moveS (syncS (writeS s t).2).2).2
def saveP (s : St) (l : List Held) : Int × St :=
  if heldFault l ≠ 0 then (heldFault l, s) else
  if (stg s (toB (textH l)) 1).1 ≠ 0 then stg s (toB (textH l)) 1 else
  if (stg s (toB (textH l)) 2).1 ≠ 0 then stg s (toB (textH l)) 2 else
  if (stg s (toB (textH l)) 3).1 ≠ 0 then stg s (toB (textH l)) 3 else stg s (toB (textH l)) 4
theorem save_bad {s : St} {l : List Held} (h : heldFault l ≠ 0) : saveP s l = (heldFault l, s) := by simp [saveP, h]
theorem save_stop {s : St} {l : List Held} (h : heldFault l = 0) {k : Nat} (hk : k < 4) (h0 : ∀ j, j ≤ k → (stg s (toB (textH l)) j).1 = 0) (h1 : (stg s (toB (textH l)) (k + 1)).1 ≠ 0) : saveP s l = stg s (toB (textH l)) (k + 1) := by
  unfold saveP
  rw [if_neg (by simp [h])]
  rcases (show k = 0 ∨ k = 1 ∨ k = 2 ∨ k = 3 by omega) with rfl | rfl | rfl | rfl
  · rw [if_pos h1]
  · rw [if_neg (by simp [h0 1]), if_pos h1]
  · rw [if_neg (by simp [h0 1]), if_neg (by simp [h0 2]), if_pos h1]
  · rw [if_neg (by simp [h0 1]), if_neg (by simp [h0 2]), if_neg (by simp [h0 3])]
theorem save_all {s : St} {l : List Held} (h : heldFault l = 0) (h0 : ∀ j, j ≤ 4 → (stg s (toB (textH l)) j).1 = 0) : saveP s l = stg s (toB (textH l)) 4 := by
  unfold saveP
  rw [if_neg (by simp [h]), if_neg (by simp [h0 1]), if_neg (by simp [h0 2]), if_neg (by simp [h0 3])]
noncomputable def loadP (s : St) : List Held × Int :=
  if (readS s).2 = 6 then ([], 0) else if (readS s).2 ≠ 0 then ([], (readS s).2) else (parseL (readS s).1.data.toList, parseF (readS s).1.data.toList)
theorem textH_len {l : List Held} (h : heldFault l = 0) (hf : Fit64 l) : (textH l).length ≤ 48100 := by
  obtain ⟨h12, hfine⟩ := fine_held h
  have h1 := bodyT_len hfine hf h12
  have h2 := itoa_16 (n := (sumP (bodyT l) : Int)) (by omega) (by have := sumP_lt (bodyT l); omega)
  unfold textH summed sumT
  simp only [List.length_append]
  have : wSum.length = 4 := rfl
  unfold bodyT at h2 ⊢
  simp only [List.length_singleton]
  omega
theorem stg_fine {n : Nat} {s : St} (h : Fine n s) (t : ByteArray) : ∀ k, Fine (n + 4) (stg s t k).2
  | 0 => h.more (by omega)
  | 1 => (h.writeS t).more (by omega)
  | 2 => (h.writeS t).syncS.more (by omega)
  | 3 => (h.writeS t).syncS.moveS.more (by omega)
  | _ + 4 => (h.writeS t).syncS.moveS.syncS.more (by omega)
theorem save_fine {n : Nat} {s : St} (h : Fine n s) (l : List Held) : Fine (n + 4) (saveP s l).2 := by
  unfold saveP
  split
  · exact h.more (by omega)
  · split
    · exact stg_fine h _ _
    · split
      · exact stg_fine h _ _
      · split
        · exact stg_fine h _ _
        · exact stg_fine h _ _
end Sv
abbrev DAfter (b : Nat) (wv : Value) (s' : St) (w w' : World) : Prop := Dk.After 111 123 b wv s' w w'
abbrev DIs (w : World) (b : Nat) (wv : Value) (s : St) : Prop := Dk.Is 111 123 w b wv s
/-- A block that is none of the disk's. -/
theorem dk_ne {w : World} {b g : Nat} {wv : Value} {s : St} {t : TypeId} {cs : Array Value} (hd : DIs w b wv s) (h : Blk w g t cs) (h1 : t ≠ 111) (h2 : t ≠ 123) : ¬ Fp b wv g := by
  rintro (hx | hx)
  · exact h.ne_ hd.blk h1 hx
  · exact own_blk_ne hd.row h (Ne.symm h2) hx
theorem dk_dat {w w' : World} {b : Nat} {wv : Value} {s : St} (hd : DIs w b wv s) (hk : Kept (Fp b wv) w w') : Dat w w' :=
  Dat.of_kept hk fun t g ht ⟨cs, hg⟩ => dk_ne hd hg (by rcases ht with rfl | rfl | rfl | rfl | rfl | rfl <;> decide) (by rcases ht with rfl | rfl | rfl | rfl | rfl | rfl <;> decide)
def SaveR (b : Nat) (wv : Value) (r : Int × St) (w : World) (e : Ending) (w' : World) : Prop := e = .returned (errV r.1) ∧ DAfter b wv r.2 w w'
theorem DAfter.below {b : Nat} {wv : Value} {s : St} {w w' : World} (h : DIs w b wv s) (hb : Below w.heap.size w w') : DAfter b wv s w w' :=
  ⟨wv, h.kept (S := fun _ => False) (Kept.of_below hb) (fun h => h) (fun _ _ h => h), .inl rfl, Kept.of_below hb⟩
theorem DAfter.is {b : Nat} {wv : Value} {s : St} {w w' : World} (h : DAfter b wv s w w') : ∃ wv', DIs w' b wv' s := by
  obtain ⟨wv', h1, _⟩ := h
  exact ⟨wv', h1⟩
theorem DAfter.then_ {b : Nat} {wv wv1 : Value} {s' : St} {w w1 w2 : World} (hk : Kept (Fp b wv) w w1) (ho : wv1.ownBlock = wv.ownBlock ∨ ∀ k, wv1.ownBlock = some k → w.heap.size ≤ k) (k : DAfter b wv1 s' w1 w2) : DAfter b wv s' w w2 := Dk.After.trans hk ho k
theorem dkV (n : Int) : DkP.V n = errV n := rfl
set_option maxHeartbeats 1000000 in
theorem saveC_any (bx bs b : Nat) (wv : Value) (T : ByteArray) (s : St) (w : World) (hx : Blk w bx 23 #[.pointer (some ⟨b, 0, none⟩)]) (ht : Blk w bs 9 #[.string T]) (hd : DIs w b wv s) (hf : Fine 1000 s) (hT : T.size ≤ 9223372036854775807) :
    Calls Tryz.prog 47 #[.pointer (some ⟨bx, 0, none⟩), .pointer (some ⟨bs, 0, none⟩)] w (SaveR b wv (writeS s T) w) := by
  have HC := Lib.hid (DkP.write_any s T b wv w hf.f1 hf.f2 hT hf.f3 hd)
  have e1 := hx.cells
  have e2 := ht.cells
  have z1 := hx.lt
  have z2 := ht.lt
  clear hx ht hd hf
  go_enter Tryz.func47, Tryz.ntmps47
  go_wp2_with fail
  refine HC.out.mono ?_
  rintro e w1 ⟨rfl, hA⟩
  rw [dkV]
  go_wp2_with fail
  go_ret
  exact ⟨rfl, hA⟩
section
attribute [local irreducible] textH heldFault stg saveP writeS syncS moveS readS parseF parseL
set_option maxRecDepth 100000 in
set_option maxHeartbeats 8000000 in
theorem SSave_any (l : List Held) (v : Value) (B b : Nat) (wv : Value) (s : St) (w : World) (hB : B ≤ w.heap.size) (hR : RSlice w B 4 (RHeld w B) [v] l) (hL : LayS w) (hd : DIs w b wv s) (hf : Fine 900 s) :
    Calls Tryz.prog 13 #[.pointer (some ⟨b, 0, none⟩), v] w (SaveR b wv (saveP s l) w) := by
  have hb0 : Below w.heap.size w (w.alloc (.cells #[.pointer (some ⟨b, 0, none⟩)] 23)) := (Below.refl _ _).alloc (Nat.le_refl _) _
  have hX0 := Blk.new w 23 #[.pointer (some ⟨b, 0, none⟩)]
  have HTX := Lib.hid (SText_any l v B _ (Nat.le_trans hB hb0.size) ((hR.below (hb0.mono hB)).mono fun _ _ h => h.below (hb0.mono hB)) (hL.below hb0))
  have HFT := Lib.hid (fit_of hR)
  have HD := Lib.hid hd
  have HB0 := Lib.hid hb0
  clear hR hL hd hb0
  have hbz := hX0.lt
  go_enter Tryz.func13, Tryz.ntmps13
  go_upto_region 1 with fail
  generalize w.alloc (.cells #[.pointer (some ⟨b, 0, none⟩)] 23) = w0 at *
  generalize w.heap.size = bx at hX0 hbz ⊢
  go_wp2_with fail
  refine HTX.out.mono ?_
  rintro e w1 ⟨hcase, hb1⟩
  have HW1 := Lib.hid (HB0.out.trans (hb1.mono HB0.out.size))
  have k1 := hX0.below hb1 hbz
  clear HTX hX0 hb1
  rcases hcase with ⟨hf0, rfl⟩ | ⟨hf0, rfl⟩
  · have HF := Lib.hid (save_bad (s := s) hf0)
    have HE := Lib.hid (errV_pos _ hf0)
    rw [HE.out]
    go_wp2_with fail
    go_ret
    have hb2 := HW1.out.alloc HW1.out.size (.cells #[.string ⟨#[]⟩] 9)
    exact ⟨by rw [HF.out, HE.out]; rfl, by rw [HF.out]; exact DAfter.below HD.out hb2⟩
  · obtain ⟨T, hT⟩ : ∃ T : ByteArray, T = toB (textH l) := ⟨_, rfl⟩
    rw [show (⟨(textH l).toArray⟩ : ByteArray) = T from hT.symm]
    have HSTOP := Lib.hid (fun k hk h0 h1 => save_stop (s := s) (k := k) hf0 hk h0 h1)
    have HALL := Lib.hid (save_all (s := s) hf0)
    rw [← hT] at HSTOP HALL
    have hts : Hid (T.size ≤ 9223372036854775807) := Lib.hid (by have := textH_len hf0 HFT.out; rw [hT, toB, size_list]; omega)
    have HFN := Lib.hid (stg_fine hf T)
    clear hT hf0 hf
    go_upto_region 2 with fail
    have k2 := k1.alloc (.cells #[.string T] 9)
    have t2 := Blk.new w1 9 #[.string T]
    have HW2 := Lib.hid (HW1.out.alloc HW1.out.size (.cells #[.string T] 9))
    clear k1 HW1
    generalize w1.alloc (.cells #[.string T] 9) = w2 at *
    generalize w1.heap.size = bs at *
    have e2 := k2.cells
    have z2 := k2.lt
    go_upto_region 5 with fail
    have k3 := k2.alloc (.cells #[.func (.func 47) #[] #[.pointer (some ⟨bx, 0, none⟩), .pointer (some ⟨bs, 0, none⟩)], .func (.func 49) #[.pointer (some ⟨b, 0, none⟩)] #[], .func (.func 50) #[.pointer (some ⟨b, 0, none⟩)] #[], .func (.func 49) #[.pointer (some ⟨b, 0, none⟩)] #[]] 114)
    have t3 := t2.alloc (.cells #[.func (.func 47) #[] #[.pointer (some ⟨bx, 0, none⟩), .pointer (some ⟨bs, 0, none⟩)], .func (.func 49) #[.pointer (some ⟨b, 0, none⟩)] #[], .func (.func 50) #[.pointer (some ⟨b, 0, none⟩)] #[], .func (.func 49) #[.pointer (some ⟨b, 0, none⟩)] #[]] 114)
    have f3 := Blk.new w2 114 #[.func (.func 47) #[] #[.pointer (some ⟨bx, 0, none⟩), .pointer (some ⟨bs, 0, none⟩)], .func (.func 49) #[.pointer (some ⟨b, 0, none⟩)] #[], .func (.func 50) #[.pointer (some ⟨b, 0, none⟩)] #[], .func (.func 49) #[.pointer (some ⟨b, 0, none⟩)] #[]]
    have HW3 := Lib.hid (HW2.out.alloc HW2.out.size (.cells #[.func (.func 47) #[] #[.pointer (some ⟨bx, 0, none⟩), .pointer (some ⟨bs, 0, none⟩)], .func (.func 49) #[.pointer (some ⟨b, 0, none⟩)] #[], .func (.func 50) #[.pointer (some ⟨b, 0, none⟩)] #[], .func (.func 49) #[.pointer (some ⟨b, 0, none⟩)] #[]] 114))
    clear k2 t2 HW2 e2 z2
    generalize w2.alloc (.cells #[.func (.func 47) #[] #[.pointer (some ⟨bx, 0, none⟩), .pointer (some ⟨bs, 0, none⟩)], .func (.func 49) #[.pointer (some ⟨b, 0, none⟩)] #[], .func (.func 50) #[.pointer (some ⟨b, 0, none⟩)] #[], .func (.func 49) #[.pointer (some ⟨b, 0, none⟩)] #[]] 114) = w3 at *
    generalize w2.heap.size = bf at *
    have HD3 : Hid (DAfter b wv (stg s T 0).2 w w3) := Lib.hid (by rw [show (stg s T 0).2 = s from by unfold stg; rfl]; exact DAfter.below HD.out HW3.out)
    have H0 : Hid (∀ j, j ≤ 0 → (stg s T j).1 = 0) := Lib.hid (fun j hj => by
      obtain rfl : j = 0 := (by omega)
      unfold stg
      rfl)
    have K3 := Lib.hid k3
    have T3 := Lib.hid t3
    have F3 := Lib.hid f3
    clear k3 t3 f3 HW3
    go_loopw [26] (fun i wi => ∃ k : Nat, i = .int .i64 k ∧ k ≤ 4 ∧ Hid (∀ j, j ≤ k → (stg s T j).1 = 0) ∧ Hid (DAfter b wv (stg s T k).2 w wi) ∧ Hid (Blk wi bx 23 #[.pointer (some ⟨b, 0, none⟩)]) ∧ Hid (Blk wi bs 9 #[.string T]) ∧ Hid (Blk wi bf 114 #[.func (.func 47) #[] #[.pointer (some ⟨bx, 0, none⟩), .pointer (some ⟨bs, 0, none⟩)], .func (.func 49) #[.pointer (some ⟨b, 0, none⟩)] #[], .func (.func 50) #[.pointer (some ⟨b, 0, none⟩)] #[], .func (.func 49) #[.pointer (some ⟨b, 0, none⟩)] #[]])) (fun i _ => 4 - (intOf i).toNat)
    case atStart => exact ⟨0, rfl, by omega, H0, HD3, K3, T3, F3⟩
    case round =>
      clear H0 HD3 K3 T3 F3
      obtain ⟨k, rfl, hk, HZ, HA, K3, T3, F3⟩ := hrel
      obtain ⟨wv1, hd1, ho1, hk1⟩ := HA.out
      have hfn := HFN.out k
      have hfe := F3.out.cells
      have hfl := F3.out.lt
      have HNE := Lib.hid (fun (g : Nat) (t : TypeId) (cs : Array Value) (h : Blk wr g t cs) (h1 : t ≠ 111) (h2 : t ≠ 123) => dk_ne hd1 h h1 h2)
      have HO1 := Lib.hid ho1
      have HK1 := Lib.hid hk1
      have HD1 := Lib.hid hd1
      clear HA ho1 hk1 hd1
      rcases (show k = 0 ∨ k = 1 ∨ k = 2 ∨ k = 3 ∨ k = 4 by omega) with rfl | rfl | rfl | rfl | rfl
      · have HE : Hid (writeS (stg s T 0).2 T = stg s T 1) := Lib.hid (by unfold stg; rfl)
        have HC : Hid (Calls Tryz.prog _ _ wr (SaveR b wv1 (writeS (stg s T 0).2 T) wr)) := Lib.hid (saveC_any bx bs b wv1 T (stg s T 0).2 wr K3.out T3.out HD1.out (hfn.more (by omega)) hts.out)
        rw [HE.out] at HC
        have HNX : Hid ((stg s T 1).1 = 0 → ∀ j, j ≤ 1 → (stg s T j).1 = 0) := Lib.hid (fun h j hj => by
          rcases Nat.lt_or_ge j 1 with h' | h'
          · exact HZ.out j (by omega)
          · obtain rfl : j = 1 := (by omega)
            exact h)
        have HST := Lib.hid (HSTOP.out 0 (by omega) HZ.out)
        clear hfn HD1 HFN HSTOP HE HZ
        go_wp2_with fail
        refine HC.out.mono ?_
        rintro e w9 ⟨rfl, hA9⟩
        have HA9 := Lib.hid (DAfter.then_ HK1.out HO1.out hA9)
        obtain ⟨wv9, _, _, hk9⟩ := hA9
        have K9 := Lib.hid (K3.out.kept hk9 (HNE.out _ _ _ K3.out (by decide) (by decide)))
        have T9 := Lib.hid (T3.out.kept hk9 (HNE.out _ _ _ T3.out (by decide) (by decide)))
        have F9 := Lib.hid (F3.out.kept hk9 (HNE.out _ _ _ F3.out (by decide) (by decide)))
        clear hk9 HC K3 T3 F3 HNE HK1 HO1
        by_cases h9 : (stg s T 1).1 = 0
        · rw [h9]
          have h9' := h9
          clear h9
          rw [errV_0]
          have HZ9 := Lib.hid (HNX.out h9')
          clear HNX HST h9'
          go_wp2_with fail
          go_roundw
          case rel => exact ⟨1, by first | rfl | go_num, by omega, HZ9, HA9, K9, T9, F9⟩
          case measure => simp [intOf]
        · have HEV := Lib.hid (errV_pos _ h9)
          rw [HEV.out]
          have HR9 := Lib.hid (HST.out h9)
          clear HNX HST
          go_wp2_with fail
          go_ret
          exact ⟨by rw [HR9.out, HEV.out]; rfl, by rw [HR9.out]; exact HA9.out⟩
      · have HE : Hid (syncS (stg s T 1).2 = stg s T 2) := Lib.hid (by unfold stg; rfl)
        have HC : Hid (Calls Tryz.prog _ _ wr (SaveR b wv1 (syncS (stg s T 1).2) wr)) := Lib.hid (DkP.sync_any (stg s T 1).2 b wv1 wr hfn.f1 hfn.f2 HD1.out)
        rw [HE.out] at HC
        have HNX : Hid ((stg s T 2).1 = 0 → ∀ j, j ≤ 2 → (stg s T j).1 = 0) := Lib.hid (fun h j hj => by
          rcases Nat.lt_or_ge j 2 with h' | h'
          · exact HZ.out j (by omega)
          · obtain rfl : j = 2 := (by omega)
            exact h)
        have HST := Lib.hid (HSTOP.out 1 (by omega) HZ.out)
        clear hfn HD1 HFN HSTOP HE HZ
        go_wp2_with fail
        refine HC.out.mono ?_
        rintro e w9 ⟨rfl, hA9⟩
        have HA9 := Lib.hid (DAfter.then_ HK1.out HO1.out hA9)
        obtain ⟨wv9, _, _, hk9⟩ := hA9
        have K9 := Lib.hid (K3.out.kept hk9 (HNE.out _ _ _ K3.out (by decide) (by decide)))
        have T9 := Lib.hid (T3.out.kept hk9 (HNE.out _ _ _ T3.out (by decide) (by decide)))
        have F9 := Lib.hid (F3.out.kept hk9 (HNE.out _ _ _ F3.out (by decide) (by decide)))
        clear hk9 HC K3 T3 F3 HNE HK1 HO1
        by_cases h9 : (stg s T 2).1 = 0
        · rw [h9]
          have h9' := h9
          clear h9
          rw [errV_0]
          have HZ9 := Lib.hid (HNX.out h9')
          clear HNX HST h9'
          go_wp2_with fail
          go_roundw
          case rel => exact ⟨2, by first | rfl | go_num, by omega, HZ9, HA9, K9, T9, F9⟩
          case measure => simp [intOf]
        · have HEV := Lib.hid (errV_pos _ h9)
          rw [HEV.out]
          have HR9 := Lib.hid (HST.out h9)
          clear HNX HST
          go_wp2_with fail
          go_ret
          exact ⟨by rw [HR9.out, HEV.out]; rfl, by rw [HR9.out]; exact HA9.out⟩
      · have HE : Hid (moveS (stg s T 2).2 = stg s T 3) := Lib.hid (by unfold stg; rfl)
        have HC : Hid (Calls Tryz.prog _ _ wr (SaveR b wv1 (moveS (stg s T 2).2) wr)) := Lib.hid (DkP.move_any (stg s T 2).2 b wv1 wr hfn.f1 hfn.f2 (Nat.le_trans hfn.f3 (by omega)) HD1.out)
        rw [HE.out] at HC
        have HNX : Hid ((stg s T 3).1 = 0 → ∀ j, j ≤ 3 → (stg s T j).1 = 0) := Lib.hid (fun h j hj => by
          rcases Nat.lt_or_ge j 3 with h' | h'
          · exact HZ.out j (by omega)
          · obtain rfl : j = 3 := (by omega)
            exact h)
        have HST := Lib.hid (HSTOP.out 2 (by omega) HZ.out)
        clear hfn HD1 HFN HSTOP HE HZ
        go_wp2_with fail
        refine HC.out.mono ?_
        rintro e w9 ⟨rfl, hA9⟩
        have HA9 := Lib.hid (DAfter.then_ HK1.out HO1.out hA9)
        obtain ⟨wv9, _, _, hk9⟩ := hA9
        have K9 := Lib.hid (K3.out.kept hk9 (HNE.out _ _ _ K3.out (by decide) (by decide)))
        have T9 := Lib.hid (T3.out.kept hk9 (HNE.out _ _ _ T3.out (by decide) (by decide)))
        have F9 := Lib.hid (F3.out.kept hk9 (HNE.out _ _ _ F3.out (by decide) (by decide)))
        clear hk9 HC K3 T3 F3 HNE HK1 HO1
        by_cases h9 : (stg s T 3).1 = 0
        · rw [h9]
          have h9' := h9
          clear h9
          rw [errV_0]
          have HZ9 := Lib.hid (HNX.out h9')
          clear HNX HST h9'
          go_wp2_with fail
          go_roundw
          case rel => exact ⟨3, by first | rfl | go_num, by omega, HZ9, HA9, K9, T9, F9⟩
          case measure => simp [intOf]
        · have HEV := Lib.hid (errV_pos _ h9)
          rw [HEV.out]
          have HR9 := Lib.hid (HST.out h9)
          clear HNX HST
          go_wp2_with fail
          go_ret
          exact ⟨by rw [HR9.out, HEV.out]; rfl, by rw [HR9.out]; exact HA9.out⟩
      · have HE : Hid (syncS (stg s T 3).2 = stg s T 4) := Lib.hid (by unfold stg; rfl)
        have HC : Hid (Calls Tryz.prog _ _ wr (SaveR b wv1 (syncS (stg s T 3).2) wr)) := Lib.hid (DkP.sync_any (stg s T 3).2 b wv1 wr hfn.f1 hfn.f2 HD1.out)
        rw [HE.out] at HC
        have HNX : Hid ((stg s T 4).1 = 0 → ∀ j, j ≤ 4 → (stg s T j).1 = 0) := Lib.hid (fun h j hj => by
          rcases Nat.lt_or_ge j 4 with h' | h'
          · exact HZ.out j (by omega)
          · obtain rfl : j = 4 := (by omega)
            exact h)
        have HST := Lib.hid (HSTOP.out 3 (by omega) HZ.out)
        clear hfn HD1 HFN HSTOP HE HZ
        go_wp2_with fail
        refine HC.out.mono ?_
        rintro e w9 ⟨rfl, hA9⟩
        have HA9 := Lib.hid (DAfter.then_ HK1.out HO1.out hA9)
        obtain ⟨wv9, _, _, hk9⟩ := hA9
        have K9 := Lib.hid (K3.out.kept hk9 (HNE.out _ _ _ K3.out (by decide) (by decide)))
        have T9 := Lib.hid (T3.out.kept hk9 (HNE.out _ _ _ T3.out (by decide) (by decide)))
        have F9 := Lib.hid (F3.out.kept hk9 (HNE.out _ _ _ F3.out (by decide) (by decide)))
        clear hk9 HC K3 T3 F3 HNE HK1 HO1
        by_cases h9 : (stg s T 4).1 = 0
        · rw [h9]
          have h9' := h9
          clear h9
          rw [errV_0]
          have HZ9 := Lib.hid (HNX.out h9')
          clear HNX HST h9'
          go_wp2_with fail
          go_roundw
          case rel => exact ⟨4, by first | rfl | go_num, by omega, HZ9, HA9, K9, T9, F9⟩
          case measure => simp [intOf]
        · have HEV := Lib.hid (errV_pos _ h9)
          rw [HEV.out]
          have HR9 := Lib.hid (HST.out h9)
          clear HNX HST
          go_wp2_with fail
          go_ret
          exact ⟨by rw [HR9.out, HEV.out]; rfl, by rw [HR9.out]; exact HA9.out⟩
      · have HR9 := Lib.hid (HALL.out HZ.out)
        have HZ4 := Lib.hid (HZ.out 4 (by omega))
        obtain ⟨wv9, hd9, ho9, hk9⟩ : DAfter b wv1 (stg s T 4).2 wr wr := Dk.After.same HD1.out
        have HA9 : Hid (DAfter b wv (stg s T 4).2 w wr) := Lib.hid ⟨wv1, HD1.out, HO1.out, HK1.out⟩
        clear hd9 ho9 hk9 hfn hfe hfl HFN HSTOP HALL HZ HNE K3 T3 F3
        go_wp2_with fail
        go_ret
        exact ⟨by rw [HR9.out, HZ4.out]; rfl, by rw [HR9.out]; exact HA9.out⟩
end
end Go.Proofs.YticmfflnenoplacGreatDoor
namespace Go.Proofs.YticmfflnenoplacGreatDoor
open Go.RowKit Go.Deep Pop Bi Da Sv Qo Dk
def LoadR (s : St) (w : World) (e : Ending) (w' : World) : Prop := ∃ v, e = .returned (.tuple #[v, errV (loadP s).2]) ∧ HeldsT w' v (loadP s).1 ∧ Below w.heap.size w w'
theorem read_cases (s : St) : (readS s).2 = 0 ∨ (readS s).2 = 6 ∨ (readS s).2 = 11 := by
  unfold readS
  split
  · exact .inr (.inr rfl)
  · split
    · exact .inl rfl
    · exact .inr (.inl rfl)
theorem load_none {s : St} (h : (readS s).2 = 6) : loadP s = ([], 0) := by rw [loadP, if_pos h]
theorem load_down {s : St} (h : (readS s).2 = 11) : loadP s = ([], 11) := by rw [loadP, if_neg (by omega), if_pos (by omega), h]
theorem load_file {s : St} (h : (readS s).2 = 0) : loadP s = (parseL (readS s).1.data.toList, parseF (readS s).1.data.toList) := by rw [loadP, if_neg (by omega), if_neg (by omega)]
theorem eqN (c : Int) (W : World) : (binOp .eql 26 .nilIface (.iface 117 (.int .i64 c))).run Tryz.prog W = .ok (.bool false) W := by
  kernel_rfl
theorem eqE (a c : Int) (W : World) : (binOp .eql 26 (.iface 117 (.int .i64 a)) (.iface 117 (.int .i64 c))).run Tryz.prog W = .ok (.bool (a == c)) W := by
  kernel_rfl
section
attribute [local irreducible] readS parseF parseL loadP
set_option maxRecDepth 100000 in
set_option maxHeartbeats 2000000 in
theorem SLoad_any (b : Nat) (wv : Value) (s : St) (w : World) (hL : LayS w) (hd : DIs w b wv s) (hs : (readS s).1.size ≤ maxLen) : Calls Tryz.prog 14 #[.pointer (some ⟨b, 0, none⟩)] w (LoadR s w) := by
  have HC := Lib.hid (DkP.read_any s b wv w hd)
  have HP := Lib.hid (SParse_any (readS s).1 hs w hL)
  have H6 := Lib.hid (@load_none s)
  have H11 := Lib.hid (@load_down s)
  have H0 := Lib.hid (@load_file s)
  have hcase := read_cases s
  clear hL hd hs
  go_enter Tryz.func14, Tryz.ntmps14
  go_wp2_with fail
  refine HC.out.mono ?_
  rintro e w1 ⟨rfl, rfl⟩
  rw [dkV]
  clear HC
  generalize readS s = rs at *
  obtain ⟨t, f⟩ := rs
  dsimp only at *
  rcases hcase with rfl | rfl | rfl
  · rw [errV_0]
    have hq := fun W => eqN 6 W
    have HE := Lib.hid (H0.out rfl)
    clear H0 H6 H11
    go_wp2_with fail
    refine HP.out.mono ?_
    rintro e w2 ⟨v2, rfl, h2, hb2⟩
    go_wp2_with fail
    go_ret2
    exact ⟨v2, by rw [HE.out]; rfl, by rw [HE.out]; exact h2, hb2⟩
  · rw [errV_pos 6 (by omega)]
    have hq := fun W => eqE 6 6 W
    have HE := Lib.hid (H6.out rfl)
    clear H0 H6 H11
    go_wp2_with fail
    go_ret2
    exact ⟨_, by rw [HE.out]; rfl, by rw [HE.out]; exact HeldsT.nil _ _ _ (by simp [maxLen]), Below.refl _ _⟩
  · rw [errV_pos 11 (by omega)]
    have hq := fun W => eqE 11 6 W
    have HE := Lib.hid (H11.out rfl)
    clear H0 H6 H11
    go_wp2_with fail
    go_ret2
    exact ⟨_, by rw [HE.out]; rfl, by rw [HE.out]; exact HeldsT.nil _ _ _ (by simp [maxLen]), Below.refl _ _⟩
end
end Go.Proofs.YticmfflnenoplacGreatDoor
namespace Go.Proofs.YticmfflnenoplacGreatDoor
open Da Sv Dk
namespace Tf
/-- A disk at rest, its file kept. -/
structure Rest (s : St) (p : Pair) : Prop where
  kept : s.kept = p
  now : s.now = p
  wait : s.wait = []
  down : s.down = false
/-- A file that stands alone. -/
def lone (t : ByteArray) : Pair := ⟨t, noText, true, false⟩
/-- Behind a fall: the file of one, or of the other. -/
def Late (s : St) (f g : ByteArray) (k : Nat) (torn : Int) : Prop := (lateS s k torn).there = true ∧ ((lateS s k torn).file = f ∨ (lateS s k torn).file = g)
theorem apply_write (p : Pair) (t : ByteArray) : apply p ⟨t, false⟩ = ⟨p.file, t, p.there, true⟩ := rfl
theorem apply_move (p : Pair) (t : ByteArray) : apply p ⟨t, true⟩ = ⟨p.draft, noText, true, false⟩ := rfl
theorem tear_file (p : Pair) (l : List Change) (k : Nat) (torn : Int) : (tearS p l k torn).file = p.file ∧ (tearS p l k torn).there = p.there := by
  unfold tearS
  split
  · split
    · exact ⟨rfl, rfl⟩
    · exact ⟨rfl, rfl⟩
  · exact ⟨rfl, rfl⟩
theorem late_nil {s : St} (h : s.wait = []) (k : Nat) (torn : Int) : lateS s k torn = s.kept := by
  unfold lateS tearS
  rw [h]
  simp
theorem late_one {s : St} {c : Change} (h : s.wait = [c]) (k : Nat) (torn : Int) : ((lateS s k torn).file = s.kept.file ∧ (lateS s k torn).there = s.kept.there) ∨ ((lateS s k torn).file = (apply s.kept c).file ∧ (lateS s k torn).there = (apply s.kept c).there) := by
  unfold lateS
  rw [h]
  cases k with
  | zero =>
    left
    exact tear_file _ _ _ _
  | succ k =>
    right
    have : ([c].take (k + 1)).foldl apply s.kept = apply s.kept c := by simp
    rw [this]
    exact tear_file _ _ _ _
theorem dead_no {s : St} (h : dead s = false) : s.down = false := by
  unfold dead at h
  simp only [Bool.or_eq_false_iff] at h
  exact h.1
/-- What saving comes to on a disk at rest: nothing was done; it fell; or it is done. -/
theorem save_rest {s : St} {p : Pair} (h : Rest s p) (ht : p.there = true) (o : List Held) :
    ((saveP s o).1 ≠ 0 ∧ (saveP s o).2 = s) ∨
    ((saveP s o).1 = 11 ∧ heldFault o = 0 ∧ (toB (textH o)).size ≤ 6000 ∧ ∀ k torn, Late (saveP s o).2 p.file (toB (textH o)) k torn) ∨
    ((saveP s o).1 = 0 ∧ heldFault o = 0 ∧ (toB (textH o)).size ≤ 6000 ∧ Rest (saveP s o).2 (lone (toB (textH o)))) := by
  by_cases h0 : heldFault o = 0
  · generalize hT : toB (textH o) = t
    by_cases h6 : 6000 < t.size
    · left
      have e : stg s t 1 = (2, s) := by simp [stg, writeS, h6]
      have : saveP s o = (2, s) := by
        rw [save_stop (k := 0) h0 (by omega) (by intro j hj; obtain rfl : j = 0 := (by omega); rfl) (by rw [hT, e]; simp), hT, e]
      rw [this]
      exact ⟨by simp, rfl⟩
    · obtain ⟨hk, hn, hw, hd⟩ := h
      right
      cases d1 : dead s with
      | true =>
        left
        have e : stg s t 1 = (11, stepDead s) := by simp [stg, writeS, h6, doS, d1]
        have : saveP s o = (11, stepDead s) := by
          rw [save_stop (k := 0) h0 (by omega) (by intro j hj; obtain rfl : j = 0 := (by omega); rfl) (by rw [hT, e]; simp), hT, e]
        rw [this]
        refine ⟨rfl, h0, by omega, fun k torn => ?_⟩
        unfold Late
        rw [late_nil (s := stepDead s) hw, show (stepDead s).kept = p from hk]
        exact ⟨ht, .inl rfl⟩
      | false =>
        have e1 : stg s t 1 = (0, { stepOk s with now := ⟨p.file, t, p.there, true⟩, wait := [⟨t, false⟩] }) := by
          simp only [stg, writeS, if_neg h6, doS, d1, hn, hw, apply_write]
          rfl
        generalize hs1 : ({ stepOk s with now := ⟨p.file, t, p.there, true⟩, wait := [⟨t, false⟩] } : St) = s1 at e1
        have w1 : s1.wait = [⟨t, false⟩] := by rw [← hs1]
        have n1 : s1.now = ⟨p.file, t, p.there, true⟩ := by rw [← hs1]
        have k1 : s1.kept = p := by rw [← hs1]; exact hk
        have e2' : stg s t 2 = syncS s1 := by
          have : stg s t 2 = syncS (stg s t 1).2 := rfl
          rw [this, e1]
        cases d2 : dead s1 with
        | true =>
          left
          have e2 : stg s t 2 = (11, stepDead s1) := by rw [e2']; simp [syncS, d2]
          have : saveP s o = (11, stepDead s1) := by
            rw [save_stop (k := 1) h0 (by omega) (by
              intro j hj
              rcases (show j = 0 ∨ j = 1 by omega) with rfl | rfl
              · rfl
              · rw [hT, e1]) (by rw [hT, e2]; simp), hT, e2]
          rw [this]
          refine ⟨rfl, h0, by omega, fun k torn => ?_⟩
          unfold Late
          rcases late_one (s := stepDead s1) (c := ⟨t, false⟩) w1 k torn with ⟨a, b⟩ | ⟨a, b⟩
          · rw [a, b, show (stepDead s1).kept = p from k1]
            exact ⟨ht, .inl rfl⟩
          · rw [a, b, show (stepDead s1).kept = p from k1]
            exact ⟨ht, .inl rfl⟩
        | false =>
          have e2 : stg s t 2 = (0, { stepOk s1 with kept := ⟨p.file, t, p.there, true⟩, wait := [] }) := by rw [e2']; simp [syncS, d2, n1]
          generalize hs2 : ({ stepOk s1 with kept := ⟨p.file, t, p.there, true⟩, wait := [] } : St) = s2 at e2
          have w2 : s2.wait = [] := by rw [← hs2]
          have n2 : s2.now = ⟨p.file, t, p.there, true⟩ := by rw [← hs2]; exact n1
          have k2 : s2.kept = ⟨p.file, t, p.there, true⟩ := by rw [← hs2]
          have e3' : stg s t 3 = moveS s2 := by
            have : stg s t 3 = moveS (stg s t 2).2 := rfl
            rw [this, e2]
          cases d3 : dead s2 with
          | true =>
            left
            have e3 : stg s t 3 = (11, stepDead s2) := by rw [e3']; simp [moveS, n2, doS, d3]
            have : saveP s o = (11, stepDead s2) := by
              rw [save_stop (k := 2) h0 (by omega) (by
                intro j hj
                rcases (show j = 0 ∨ j = 1 ∨ j = 2 by omega) with rfl | rfl | rfl
                · rfl
                · rw [hT, e1]
                · rw [hT, e2]) (by rw [hT, e3]; simp), hT, e3]
            rw [this]
            refine ⟨rfl, h0, by omega, fun k torn => ?_⟩
            unfold Late
            rw [late_nil (s := stepDead s2) w2, show (stepDead s2).kept = ⟨p.file, t, p.there, true⟩ from k2]
            exact ⟨ht, .inl rfl⟩
          | false =>
            have e3 : stg s t 3 = (0, { stepOk s2 with now := lone t, wait := [⟨noText, true⟩] }) := by
              rw [e3']
              simp [moveS, n2, doS, d3, w2, apply_move, lone]
            generalize hs3 : ({ stepOk s2 with now := lone t, wait := [⟨noText, true⟩] } : St) = s3 at e3
            have w3 : s3.wait = [⟨noText, true⟩] := by rw [← hs3]
            have n3 : s3.now = lone t := by rw [← hs3]
            have k3 : s3.kept = ⟨p.file, t, p.there, true⟩ := by rw [← hs3]; exact k2
            have e4' : stg s t 4 = syncS s3 := by
              have : stg s t 4 = syncS (stg s t 3).2 := rfl
              rw [this, e3]
            cases d4 : dead s3 with
            | true =>
              left
              have e4 : stg s t 4 = (11, stepDead s3) := by rw [e4']; simp [syncS, d4]
              have : saveP s o = (11, stepDead s3) := by
                rw [save_stop (k := 3) h0 (by omega) (by
                  intro j hj
                  rcases (show j = 0 ∨ j = 1 ∨ j = 2 ∨ j = 3 by omega) with rfl | rfl | rfl | rfl
                  · rfl
                  · rw [hT, e1]
                  · rw [hT, e2]
                  · rw [hT, e3]) (by rw [hT, e4]; simp), hT, e4]
              rw [this]
              refine ⟨rfl, h0, by omega, fun k torn => ?_⟩
              unfold Late
              rcases late_one (s := stepDead s3) (c := ⟨noText, true⟩) w3 k torn with ⟨a, b⟩ | ⟨a, b⟩
              · rw [a, b, show (stepDead s3).kept = ⟨p.file, t, p.there, true⟩ from k3]
                exact ⟨ht, .inl rfl⟩
              · rw [a, b, show (stepDead s3).kept = ⟨p.file, t, p.there, true⟩ from k3]
                exact ⟨rfl, .inr rfl⟩
            | false =>
              right
              have e4 : stg s t 4 = (0, { stepOk s3 with kept := lone t, wait := [] }) := by rw [e4']; simp [syncS, d4, n3]
              have : saveP s o = (0, { stepOk s3 with kept := lone t, wait := [] }) := by
                rw [save_all h0 (by
                  intro j hj
                  rcases (show j = 0 ∨ j = 1 ∨ j = 2 ∨ j = 3 ∨ j = 4 by omega) with rfl | rfl | rfl | rfl | rfl
                  · rfl
                  · rw [hT, e1]
                  · rw [hT, e2]
                  · rw [hT, e3]
                  · rw [hT, e4]), hT, e4]
              rw [this]
              exact ⟨rfl, h0, by omega, ⟨rfl, n3, rfl, by show s3.down = false; exact dead_no d4⟩⟩
  · left
    rw [save_bad h0]
    exact ⟨h0, rfl⟩
/-- The file that a disk holds, read. -/
theorem load_at {s : St} (hd : s.down = false) (ht : s.now.there = true) {l : List Held} (hf : s.now.file = toB (textH l)) (h0 : heldFault l = 0) (hx : Fit64 l) (h6 : (toB (textH l)).size ≤ 6000) : loadP s = (l, 0) ∧ (readS s).1 = toB (textH l) := by
  have hr : readS s = (toB (textH l), 0) := by simp [readS, hd, ht, hf]
  have hp := parse_some (t := textH l) (l := l) (by rw [toB, size_list] at h6; omega) ⟨h0, hx, rfl⟩
  refine ⟨?_, by rw [hr]⟩
  rw [load_file (by rw [hr]), hr, toB_list, hp.1, hp.2]
theorem rest_arm {s : St} {p : Pair} (h : Rest s p) (n : Int) : Rest (armS s n) p := ⟨h.kept, h.now, h.wait, h.down⟩
theorem rest_restart {s : St} {p : Pair} (h : Rest s p) (k : Nat) (torn : Int) : Rest (restartS s k torn) p := by
  have : lateS s k torn = p := by rw [late_nil h.wait, h.kept]
  exact ⟨this, this, rfl, rfl⟩
theorem fine_arm {k : Nat} {s : St} (h : Fine k s) {n : Int} (hn : n ≤ 9223372036854775807) : Fine (k + 1) (armS s n) := h.armS hn
/-- THE WHOLE: what is there behind a fall is what was saved, or what was ahead of it. -/
theorem whole {s : St} {l o : List Held} (h : Rest s (lone (toB (textH l)))) (h0 : heldFault l = 0) (hx : Fit64 l) (h6 : (toB (textH l)).size ≤ 6000) (hxo : Fit64 o) (k : Nat) (torn : Int) :
    ((saveP s o).1 ≠ 0 ∧ (saveP s o).1 ≠ 11 → loadP (saveP s o).2 = (l, 0) ∧ (readS (saveP s o).2).1.size ≤ 6000) ∧
    (((saveP s o).1 = 0 ∨ (saveP s o).1 = 11) → ∃ x, loadP (restartS (saveP s o).2 k torn) = (x, 0) ∧ (readS (restartS (saveP s o).2 k torn)).1.size ≤ 6000 ∧ (x = o ∨ ((saveP s o).1 ≠ 0 ∧ x = l))) := by
  have hl : ∀ s', Rest s' (lone (toB (textH l))) → loadP s' = (l, 0) ∧ (readS s').1.size ≤ 6000 := fun s' h' => by
    obtain ⟨a, b⟩ := load_at h'.down (by rw [h'.now]; rfl) (by rw [h'.now]; rfl) h0 hx h6
    exact ⟨a, by rw [b]; exact h6⟩
  rcases save_rest h rfl o with ⟨a, b⟩ | ⟨a, b, c, d⟩ | ⟨a, b, c, d⟩
  · refine ⟨fun _ => by rw [b]; exact hl s h, fun hc => ?_⟩
    rw [b]
    have := hl _ (rest_restart h k torn)
    exact ⟨l, this.1, this.2, .inr ⟨a, rfl⟩⟩
  · refine ⟨fun hc => absurd a hc.2, fun _ => ?_⟩
    obtain ⟨e1, e2⟩ := d k torn
    have hn : (restartS (saveP s o).2 k torn).now = lateS (saveP s o).2 k torn := rfl
    rcases e2 with e2 | e2
    · obtain ⟨q1, q2⟩ := load_at (s := restartS (saveP s o).2 k torn) rfl (by rw [hn]; exact e1) (by rw [hn]; exact e2) h0 hx h6
      exact ⟨l, q1, by rw [q2]; exact h6, .inr ⟨by rw [a]; decide, rfl⟩⟩
    · obtain ⟨q1, q2⟩ := load_at (s := restartS (saveP s o).2 k torn) rfl (by rw [hn]; exact e1) (by rw [hn]; exact e2) b hxo c
      exact ⟨o, q1, by rw [q2]; exact c, .inl rfl⟩
  · refine ⟨fun hc => absurd a hc.1, fun _ => ?_⟩
    have hr := rest_restart d k torn
    obtain ⟨q1, q2⟩ := load_at (s := restartS (saveP s o).2 k torn) hr.down (by rw [hr.now]; rfl) (by rw [hr.now]; rfl) b hxo c
    exact ⟨o, q1, by rw [q2]; exact c, .inl rfl⟩
/-- No fall is laid: what may be saved is saved. -/
theorem save_easy {s : St} {p : Pair} (h : Rest s p) (hf : s.fuse = -1) {o : List Held} (h0 : heldFault o = 0) (h6 : (toB (textH o)).size ≤ 6000) : ∃ s', saveP s o = (0, s') ∧ Rest s' (lone (toB (textH o))) ∧ s'.fuse = -1 := by
  generalize hT : toB (textH o) = t at *
  obtain ⟨hk, hn, hw, hd⟩ := h
  have nd : ∀ x : St, x.down = false → x.fuse = -1 → dead x = false := fun x a b => by simp [dead, a, b]
  have so : ∀ x : St, x.fuse = -1 → (stepOk x).fuse = -1 := fun x a => by simp [stepOk, a]
  have d1 := nd s hd hf
  have e1 : stg s t 1 = (0, { stepOk s with now := ⟨p.file, t, p.there, true⟩, wait := [⟨t, false⟩] }) := by
    simp only [stg, writeS, if_neg (show ¬ 6000 < t.size by omega), doS, d1, hn, hw, apply_write]
    rfl
  generalize hs1 : ({ stepOk s with now := ⟨p.file, t, p.there, true⟩, wait := [⟨t, false⟩] } : St) = s1 at e1
  have n1 : s1.now = ⟨p.file, t, p.there, true⟩ := by rw [← hs1]
  have f1 : s1.fuse = -1 := by rw [← hs1]; exact so s hf
  have g1 : s1.down = false := by rw [← hs1]; exact hd
  have e2 : stg s t 2 = (0, { stepOk s1 with kept := ⟨p.file, t, p.there, true⟩, wait := [] }) := by
    have : stg s t 2 = syncS (stg s t 1).2 := rfl
    rw [this, e1]
    simp [syncS, nd s1 g1 f1, n1]
  generalize hs2 : ({ stepOk s1 with kept := ⟨p.file, t, p.there, true⟩, wait := [] } : St) = s2 at e2
  have n2 : s2.now = ⟨p.file, t, p.there, true⟩ := by rw [← hs2]; exact n1
  have w2 : s2.wait = [] := by rw [← hs2]
  have f2 : s2.fuse = -1 := by rw [← hs2]; exact so s1 f1
  have g2 : s2.down = false := by rw [← hs2]; exact g1
  have e3 : stg s t 3 = (0, { stepOk s2 with now := lone t, wait := [⟨noText, true⟩] }) := by
    have : stg s t 3 = moveS (stg s t 2).2 := rfl
    rw [this, e2]
    simp [moveS, n2, doS, nd s2 g2 f2, w2, apply_move, lone]
  generalize hs3 : ({ stepOk s2 with now := lone t, wait := [⟨noText, true⟩] } : St) = s3 at e3
  have n3 : s3.now = lone t := by rw [← hs3]
  have f3 : s3.fuse = -1 := by rw [← hs3]; exact so s2 f2
  have g3 : s3.down = false := by rw [← hs3]; exact g2
  have e4 : stg s t 4 = (0, { stepOk s3 with kept := lone t, wait := [] }) := by
    have : stg s t 4 = syncS (stg s t 3).2 := rfl
    rw [this, e3]
    simp [syncS, nd s3 g3 f3, n3]
  refine ⟨{ stepOk s3 with kept := lone t, wait := [] }, ?_, ⟨rfl, n3, rfl, g3⟩, so s3 f3⟩
  rw [save_all h0 (by
    intro j hj
    rcases (show j = 0 ∨ j = 1 ∨ j = 2 ∨ j = 3 ∨ j = 4 by omega) with rfl | rfl | rfl | rfl | rfl
    · rfl
    · rw [hT, e1]
    · rw [hT, e2]
    · rw [hT, e3]
    · rw [hT, e4]), hT, e4]
/-! ### The first, empty one -/
theorem fault_nil : heldFault [] = 0 := rfl
theorem text_nil : (toB (textH [])).size ≤ 6000 := by
  have := itoa_16 (n := (sumP (bodyT []) : Int)) (by omega) (by have := sumP_lt (bodyT []); omega)
  have e : (toB (textH [])).size = (bodyT []).length + (4 + (Lib.itoa (sumP (bodyT []) : Int)).length + 1) := by
    rw [toB, size_list]
    unfold textH summed sumT
    simp only [List.length_append]
    rfl
  have e2 : (bodyT []).length = 0 := rfl
  rw [e, e2]
  omega
theorem fit_nil : Fit64 [] := fun x hx => by simp at hx
theorem rest_new : Rest Dk.new noPair := ⟨rfl, rfl, rfl, rfl⟩
end Tf
end Go.Proofs.YticmfflnenoplacGreatDoor
