/- Texts laid together: TfB, HeldRd, Open. No statement is proved here. -/
import Derived.Deep.CutBlock
import Derived.OpenShut
import Derived.ChangeArms
import Derived.ProofKit
import Derived.Test.YticmfflnenoplacGreatDoorQ06
namespace Go.Proofs.YticmfflnenoplacGreatDoor
open Go.RowKit Go.Deep Pop Bi Da Sv Qo Dk
namespace Tf
/-- A disk made within a call. -/
def DOne (w0 w : World) (b : Nat) (s : St) : Prop := ∃ wv, DIs w b wv s ∧ w0.heap.size ≤ b ∧ (∀ g, wv.ownBlock = some g → w0.heap.size ≤ g) ∧ Below w0.heap.size w0 w
theorem DOne.after {w0 w w' : World} {b : Nat} {wv : Value} {s' : St} (h2 : w0.heap.size ≤ b) (h3 : ∀ g, wv.ownBlock = some g → w0.heap.size ≤ g) (h4 : Below w0.heap.size w0 w) (ha : DAfter b wv s' w w') : DOne w0 w' b s' := by
  obtain ⟨wv1, k1, ho, hk⟩ := ha
  refine ⟨wv1, k1, h2, ?_, h4.trans (hk.below h4.size ?_)⟩
  · intro g hg
    rcases ho with ho | ho
    · exact h3 g (ho ▸ hg)
    · exact Nat.le_trans h4.size (ho g hg)
  · rintro k hk' (x | x)
    · omega
    · exact absurd (h3 k x) (by omega)
theorem DOne.below {w0 w w' : World} {b : Nat} {s : St} (h : DOne w0 w b s) (hb : Below w.heap.size w w') : DOne w0 w' b s := by
  obtain ⟨wv, h1, h2, h3, h4⟩ := h
  exact DOne.after h2 h3 h4 (DAfter.below h1 hb)
theorem DOne.call {w0 w : World} {b : Nat} {s s' : St} {f : FuncId} {args : Array Value} {v : Value} (h : DOne w0 w b s)
    (c : ∀ wv, DIs w b wv s → Calls Tryz.prog f args w (fun e w' => e = .returned v ∧ DAfter b wv s' w w')) : Calls Tryz.prog f args w (fun e w' => e = .returned v ∧ DOne w0 w' b s') := by
  obtain ⟨wv, h1, h2, h3, h4⟩ := h
  exact (c wv h1).mono fun e w' ⟨he, ha⟩ => ⟨he, DOne.after h2 h3 h4 ha⟩
theorem helds_up {w w' : World} {B : Nat} {v : Value} {l : List Held} (h : RSlice w B 4 (RHeld w B) [v] l) (hb : Below B w w') (hB : B ≤ w'.heap.size) : RSlice w' w'.heap.size 4 (RHeld w' w'.heap.size) [v] l :=
  RS.move (S' := (· < w'.heap.size)) (RS.of h) (fun b hb' => hb.block b hb') (fun _ h => Nat.lt_of_lt_of_le h hB) fun _ _ _ h =>
    RHeldS.move (w' := w') (SC' := (· < w'.heap.size)) (SG' := (· < w'.heap.size)) (SN' := (· < w'.heap.size)) (SI' := (· < w'.heap.size)) (SC := (· < B)) (SG := (· < B)) (SN := (· < B)) (SI := (· < B)) h
      (fun b hb' => hb.block b hb') (fun _ h => Nat.lt_of_lt_of_le h hB) (fun b hb' => hb.block b hb') (fun _ h => Nat.lt_of_lt_of_le h hB) (fun b hb' => hb.block b hb') (fun _ h => Nat.lt_of_lt_of_le h hB) (fun b hb' => hb.block b hb') (fun _ h => Nat.lt_of_lt_of_le h hB)
theorem DOne.up {w0 w : World} {b : Nat} {s : St} {v : Value} {l : List Held} (h : DOne w0 w b s) (hR : RSlice w0 w0.heap.size 4 (RHeld w0 w0.heap.size) [v] l) : RSlice w w.heap.size 4 (RHeld w w.heap.size) [v] l := by
  obtain ⟨_, _, _, _, h4⟩ := h
  exact helds_up hR h4 h4.size
theorem DOne.save {w0 w : World} {b : Nat} {s : St} {v : Value} {l : List Held} (h : DOne w0 w b s) (hR : RSlice w0 w0.heap.size 4 (RHeld w0 w0.heap.size) [v] l) (hL : LayS w0) (hf : Fine 900 s) :
    Calls Tryz.prog 13 #[.pointer (some ⟨b, 0, none⟩), v] w (fun e w' => e = .returned (errV (saveP s l).1) ∧ DOne w0 w' b (saveP s l).2) := by
  have hR' := h.up hR
  have hL' : LayS w := by
    obtain ⟨_, _, _, _, h4⟩ := h
    exact hL.below h4
  exact h.call fun wv hd => SSave_any l v _ b wv s w (Nat.le_refl _) hR' hL' hd hf
theorem DOne.load {w0 w : World} {b : Nat} {s : St} (h : DOne w0 w b s) (hL : LayS w0) (hs : (readS s).1.size ≤ maxLen) :
    Calls Tryz.prog 14 #[.pointer (some ⟨b, 0, none⟩)] w (fun e w' => ∃ v, e = .returned (.tuple #[v, errV (loadP s).2]) ∧ HeldsT w' v (loadP s).1 ∧ DOne w0 w' b s) := by
  obtain ⟨wv, h1, h2, h3, h4⟩ := h
  exact (SLoad_any b wv s w (hL.below h4) h1 hs).mono fun e w' ⟨v, he, hv, hb⟩ => ⟨v, he, hv, DOne.below ⟨wv, h1, h2, h3, h4⟩ hb⟩
end Tf
set_option maxHeartbeats 400000 in
theorem errNo_any (n : Int) (w : World) : Calls Tryz.prog 17 #[errV n] w fun e w' => e = .returned (.int .i64 n) ∧ w' = w := by
  by_cases h : n = 0
  · subst h
    rw [errV_0]
    go_enter Tryz.func17, Tryz.ntmps17
    go_wp2_with fail
    go_ret
    exact ⟨rfl, rfl⟩
  · rw [errV_pos n h]
    clear h
    have hta := fun w => assertE n w
    go_enter Tryz.func17, Tryz.ntmps17
    go_wp2_with fail
    go_ret
    exact ⟨rfl, rfl⟩
theorem errNo_pos (n : Int) (h : n ≠ 0) (w : World) : Calls Tryz.prog 17 #[.iface 117 (.int .i64 n)] w fun e w' => e = .returned (.int .i64 n) ∧ w' = w := by
  have := errNo_any n w
  rw [errV_pos n h] at this
  exact this
open Tf
section
attribute [local irreducible] textH heldFault stg saveP writeS syncS moveS readS parseF parseL loadP restartS armS kOf
set_option maxRecDepth 100000 in
set_option maxHeartbeats 16000000 in
theorem TopFile_any (l o : List Held) (v v2 : Value) (fuse keep torn : Int) (w : World) (h1 : RSlice w w.heap.size 4 (RHeld w w.heap.size) [v] l) (h2 : RSlice w w.heap.size 4 (RHeld w w.heap.size) [v2] o)
    (hf : -9223372036854775808 ≤ fuse ∧ fuse ≤ 9223372036854775807) (hL : LayS w) :
    Calls Tryz.prog 3 #[v, v2, .int .i64 fuse, .int .i64 keep, .int .i64 torn] w (RetBB true w) := by
  have hxl := Lib.hid (fit_of h1)
  have hxo := Lib.hid (fit_of h2)
  have H1 := Lib.hid h1
  have H2 := Lib.hid h2
  have HL := Lib.hid hL
  have HN := Lib.hid (HeldsT.nil w none 0 (by simp [maxLen])).to
  obtain ⟨s1, es, rs, fs⟩ := save_easy rest_new rfl fault_nil text_nil
  have EL := Lib.hid (load_at rs.down (by rw [rs.now]; rfl) (by rw [rs.now]; rfl) fault_nil fit_nil text_nil)
  have ES := Lib.hid es
  have F1 := Lib.hid (show Fine 4 s1 by have := save_fine Fine.new []; rw [es] at this; exact this)
  have R1 := Lib.hid rs
  clear h1 h2 hL es rs fs
  go_enter Tryz.func3, Tryz.ntmps3
  go_wp2_with fail
  refine (DkP.new_any _).mono ?_
  rintro e w1 ⟨b, rfl, hi, hbe, hb⟩
  have D1 := Lib.hid (show DOne w w1 b Dk.new from ⟨_, hi, by omega, by simp [Value.ownBlock], hb⟩)
  clear hi hbe hb
  go_wp2_with fail
  refine (D1.out.save HN.out HL.out (Fine.new.more (by omega))).mono ?_
  rintro e w2 ⟨rfl, d2⟩
  rw [ES.out] at d2
  have D2 := Lib.hid d2
  rw [ES.out]
  dsimp only
  rw [errV_0]
  clear d2 D1 ES
  go_wp2_with fail
  refine (D2.out.load HL.out (by rw [EL.out.2]; have := text_nil; unfold maxLen; omega)).mono ?_
  rintro e w3 ⟨vn, rfl, hn, d3⟩
  rw [EL.out.1] at hn
  rw [EL.out.1]
  have D3 := Lib.hid d3
  obtain ⟨A, cap, hv, _, _⟩ := hn
  obtain rfl : vn = .slice A 0 cap := by simpa using hv
  dsimp only
  clear hv
  rw [errV_0]
  clear d3 D2 EL
  go_wp2_with fail
  refine (lightHeld_any l v _ (D3.out.up H1.out)).mono ?_
  rintro e w4 ⟨b1, rfl, hb4⟩
  have D4 := Lib.hid (D3.out.below hb4)
  clear hb4 D3
  cases b1 with
  | false =>
    go_wp2_with fail
    go_ret
    obtain ⟨_, _, _, _, h4⟩ := D4.out
    exact ⟨rfl, h4⟩
  | true =>
    go_wp2_with fail
    refine (lightHeld_any o v2 _ (D4.out.up H2.out)).mono ?_
    rintro e w5 ⟨b2, rfl, hb5⟩
    have D5 := Lib.hid (D4.out.below hb5)
    clear hb5 D4
    cases b2 with
    | false =>
      go_wp2_with fail
      go_ret
      obtain ⟨_, _, _, _, h4⟩ := D5.out
      exact ⟨rfl, h4⟩
    | true =>
      go_wp2_with fail
      refine (D5.out.save H1.out HL.out (F1.out.more (by omega))).mono ?_
      rintro e w6 ⟨rfl, d6⟩
      have hr := save_rest R1.out rfl l
      have hf6 := save_fine F1.out l
      generalize saveP s1 l = r at *
      obtain ⟨c, s2⟩ := r
      dsimp only at *
      have D6 := Lib.hid d6
      have F6 := Lib.hid hf6
      have R6 := Lib.hid hr
      clear d6 hf6 hr D5
      by_cases hc : c = 0
      · subst hc
        rw [errV_0]
        obtain ⟨h0, h6, hr2⟩ : heldFault l = 0 ∧ (toB (textH l)).size ≤ 6000 ∧ Tf.Rest s2 (Tf.lone (toB (textH l))) := by
          rcases R6.out with ⟨a, _⟩ | ⟨a, _⟩ | ⟨_, a⟩
          · exact absurd rfl a
          · cases a
          · exact a
        have Hz := Lib.hid h0
        have H6 := Lib.hid h6
        have R2 := Lib.hid hr2
        clear h0 h6 hr2 R6
        have harm : ∀ n : Int, n ≤ 9223372036854775807 → Calls Tryz.prog 16 #[.pointer (some ⟨b, 0, none⟩), .int .i64 n] w6 (fun e w' => e = .returned (.tuple #[]) ∧ DOne w w' b (armS s2 n)) := fun n hn => D6.out.call fun wv h => DkP.arm_any s2 n b wv w6 h
        have HARM := Lib.hid harm
        clear harm
        have hn : -1 ≤ min (max fuse (-1)) 20 ∧ min (max fuse (-1)) 20 ≤ 20 := by omega
        have HW := Lib.hid (whole (rest_arm R2.out (min (max fuse (-1)) 20)) Hz.out hxl.out H6.out hxo.out (kOf keep (saveP (armS s2 (min (max fuse (-1)) 20)) o).2.wait.length) torn)
        have F7 := Lib.hid (F6.out.armS (n := min (max fuse (-1)) 20) (by omega))
        clear hf
        go_wp2_with fail
        refine (HARM.out _ (by omega)).mono ?_
        clear hn
        rintro e w7 ⟨rfl, d7⟩
        generalize armS s2 (min (max fuse (-1)) 20) = s3 at *
        have D7 := Lib.hid d7
        clear d7 D6 HARM
        generalize min (max fuse (-1)) 20 = n at *
        go_wp2_with fail
        refine (D7.out.save H2.out HL.out (F7.out.more (by omega))).mono ?_
        rintro e w8 ⟨rfl, d8⟩
        have f8 := save_fine F7.out o
        generalize saveP s3 o = r at *
        obtain ⟨c, s4⟩ := r
        dsimp only at *
        have D8 := Lib.hid d8
        have F8 := Lib.hid f8
        obtain ⟨hA, hB⟩ := HW.out
        try dsimp only at hA hB
        have HA := Lib.hid hA
        have HB := Lib.hid hB
        clear d8 f8 hA hB HW D7
        by_cases hc0 : c = 0
        · subst hc0
          rw [errV_0]
          obtain ⟨x, hx1, hx2, hx3⟩ := HB.out (.inl rfl)
          obtain rfl : x = o := by
            rcases hx3 with a | ⟨a, _⟩
            · exact a
            · exact absurd rfl a
          have X1 := Lib.hid hx1
          have X2 := Lib.hid hx2
          clear hx1 hx2 hx3 HA HB
          go_wp2_with fail
          refine (D8.out.call fun wv h => DkP.restart_all s4 keep torn b wv w8 (Nat.le_trans F8.out.f3 (by omega)) h F8.out.f4).mono ?_
          rintro e w9 ⟨rfl, d9⟩
          have D9 := Lib.hid d9
          clear d9 D8 F8
          go_wp2_with fail
          refine (D9.out.load HL.out (by unfold maxLen; have := X2.out; omega)).mono ?_
          rintro e w10 ⟨vx, rfl, hx, d10⟩
          rw [X1.out] at hx
          rw [X1.out]
          try dsimp only at hx
          dsimp only
          rw [errV_0]
          have HX := Lib.hid hx.to
          have D10 := Lib.hid d10
          clear hx d10 D9 X1 X2
          go_wp2_with fail
          refine (sameH_any _ _ _ _ _ HX.out (D10.out.up H2.out)).mono ?_
          rintro e w11 ⟨b5, rfl, hb5, hbel⟩
          obtain rfl := hb5 rfl
          obtain ⟨_, _, _, _, hfin⟩ := D10.out.below hbel
          clear hb5 hbel D10 HX
          go_wp2_with fail
          go_ret
          exact ⟨rfl, hfin⟩
        · rw [errV_pos c hc0]
          by_cases h11 : c = 11
          · subst h11
            obtain ⟨x, hx1, hx2, hx3⟩ := HB.out (.inr rfl)
            have X1 := Lib.hid hx1
            have X2 := Lib.hid hx2
            clear hx1 hx2 HA HB
            go_wp2_with fail
            refine (errNo_pos 11 (by omega) _).mono ?_
            rintro e w9 ⟨rfl, rfl⟩
            go_wp2_with fail
            refine (D8.out.call fun wv h => DkP.restart_all s4 keep torn b wv _ (Nat.le_trans F8.out.f3 (by omega)) h F8.out.f4).mono ?_
            rintro e w9 ⟨rfl, d9⟩
            have D9 := Lib.hid d9
            clear d9 D8 F8
            go_wp2_with fail
            refine (D9.out.load HL.out (by unfold maxLen; have := X2.out; omega)).mono ?_
            rintro e w10 ⟨vx, rfl, hx, d10⟩
            rw [X1.out] at hx
            rw [X1.out]
            try dsimp only at hx
            dsimp only
            rw [errV_0]
            have HX := Lib.hid hx.to
            have D10 := Lib.hid d10
            clear hx d10 D9 X1 X2
            rcases hx3 with rfl | ⟨_, rfl⟩
            · go_wp2_with fail
              refine (sameH_any _ _ _ _ _ HX.out (D10.out.up H2.out)).mono ?_
              rintro e w11 ⟨b5, rfl, hb5, hbel⟩
              obtain rfl := hb5 rfl
              obtain ⟨_, _, _, _, hfin⟩ := D10.out.below hbel
              clear hb5 hbel D10 HX
              go_wp2_with fail
              go_ret
              exact ⟨rfl, hfin⟩
            · go_wp2_with fail
              refine (sameH_any _ _ _ _ _ HX.out (D10.out.up H2.out)).mono ?_
              rintro e w11 ⟨b5, rfl, _, hbel⟩
              have D11 := Lib.hid (D10.out.below hbel)
              have HX' := Lib.hid (helds_up HX.out hbel hbel.size)
              clear hbel D10 HX
              cases b5 with
              | true =>
                go_wp2_with fail
                go_ret
                obtain ⟨_, _, _, _, hfin⟩ := D11.out
                exact ⟨rfl, hfin⟩
              | false =>
                go_wp2_with fail
                refine (sameH_any _ _ _ _ _ HX'.out (D11.out.up H1.out)).mono ?_
                rintro e w12 ⟨b6, rfl, hb6, hbel⟩
                obtain rfl := hb6 rfl
                obtain ⟨_, _, _, _, hfin⟩ := D11.out.below hbel
                clear hb6 hbel D11 HX'
                go_wp2_with fail
                go_ret
                exact ⟨rfl, hfin⟩
          · obtain ⟨hx1, hx2⟩ := HA.out ⟨hc0, h11⟩
            have X1 := Lib.hid hx1
            have X2 := Lib.hid hx2
            clear hx1 hx2 HA HB
            go_wp2_with fail
            refine (errNo_pos c hc0 _).mono ?_
            rintro e w9 ⟨rfl, rfl⟩
            go_wp2_with fail
            refine (D8.out.load HL.out (by unfold maxLen; have := X2.out; omega)).mono ?_
            rintro e w10 ⟨vx, rfl, hx, d10⟩
            rw [X1.out] at hx
            rw [X1.out]
            try dsimp only at hx
            dsimp only
            rw [errV_0]
            have HX := Lib.hid hx.to
            have D10 := Lib.hid d10
            clear hx d10 D8 X1 X2
            go_wp2_with fail
            refine (sameH_any _ _ _ _ _ HX.out (D10.out.up H1.out)).mono ?_
            rintro e w11 ⟨b5, rfl, hb5, hbel⟩
            obtain rfl := hb5 rfl
            obtain ⟨_, _, _, _, hfin⟩ := D10.out.below hbel
            clear hb5 hbel D10 HX
            go_wp2_with fail
            go_ret
            exact ⟨rfl, hfin⟩
      · rw [errV_pos c hc]
        go_wp2_with fail
        go_ret
        obtain ⟨_, _, _, _, h4⟩ := D6.out
        exact ⟨rfl, h4⟩
end
end Go.Proofs.YticmfflnenoplacGreatDoor
namespace Go.Proofs.YticmfflnenoplacGreatDoor
open Go.RowKit Go.Deep Da Sv
section
variable {H : Type} {enc : TypeId × Value → H} {w : World} {spare : Nat → Bool} {held : Bool}
theorem cells_set : Tryz.prog.cellsOf 38 = 1 := by kernel_rfl
theorem cells_given : Tryz.prog.cellsOf 80 = 2 := by kernel_rfl
theorem cells_givens : Tryz.prog.cellsOf 67 = 1 := by kernel_rfl
theorem cells_held : Tryz.prog.cellsOf 69 = 4 := by kernel_rfl
theorem given_of (fuel : Nat) (cs : List Value) (x : DataW H × List MemPlace) (h : DataW.trod enc Tryz.prog w 0 spare held fuel 80 cs = some x) : ∃ y, RGiven w w.heap.size cs y := by
  obtain ⟨xs, n, _, _, hcl, hxl, hf⟩ := DataW.trod_struct Tryz.underlying80 h
  rw [cells_given] at hcl
  obtain ⟨c0, c1, rfl⟩ := list2 hcl
  obtain ⟨y0, e0⟩ := some_of (i := 0) hxl (by decide)
  obtain ⟨y1, e1⟩ := some_of (i := 1) hxl (by decide)
  have h0 := field_of hf (i := 0) rfl rfl rfl cells_set e0
  have h1 := field_of hf (i := 1) rfl rfl rfl cells_ints e1
  obtain ⟨k, hk, _, hw⟩ := DataW.trod_int Tryz.underlying38 h0
  obtain ⟨l, hv⟩ := rslice_of Tryz.underlying78 cells_int (by omega) int_of h1
  simp at hk
  subst hk
  have hb := bounds_u64 hw
  obtain ⟨m, rfl⟩ : ∃ m : Nat, k = (m : Int) := ⟨k.toNat, by omega⟩
  exact ⟨⟨m, l⟩, c1, rfl, by show m < 18446744073709551616; omega, by simpa using hv⟩
theorem held_of (fuel : Nat) (cs : List Value) (x : DataW H × List MemPlace) (h : DataW.trod enc Tryz.prog w 0 spare held fuel 69 cs = some x) : ∃ y, RHeld w w.heap.size cs y := by
  obtain ⟨xs, n, _, _, hcl, hxl, hf⟩ := DataW.trod_struct Tryz.underlying69 h
  rw [cells_held] at hcl
  obtain ⟨c0, c1, c2, c3, rfl⟩ := list4 hcl
  obtain ⟨y0, e0⟩ := some_of (i := 0) hxl (by decide)
  obtain ⟨y1, e1⟩ := some_of (i := 1) hxl (by decide)
  have h0 := field_of hf (i := 0) rfl rfl rfl cells_pod e0
  have h1 := field_of hf (i := 1) rfl rfl rfl cells_givens e1
  obtain ⟨p, hp⟩ := pod_of _ _ _ h0
  obtain ⟨l, hv⟩ := rslice_of Tryz.underlying67 cells_given (by omega) given_of h1
  obtain ⟨cv, he, q1, q2, q3⟩ := hp
  simp at he
  obtain ⟨rfl, rfl, rfl⟩ := he
  exact ⟨⟨p, l⟩, c2, c3, rfl, ⟨c2, rfl, q1, q2, q3⟩, by simpa using hv⟩
theorem helds_of {fuel : Nat} {a0 : Option Addr} {len0 cap0 : Nat} {x : DataW H × List MemPlace} (h : DataW.trod enc Tryz.prog w 0 spare held fuel 22 [.slice a0 len0 cap0] = some x) : ∃ l : List Held, RSlice w w.heap.size 4 (RHeld w w.heap.size) [.slice a0 len0 cap0] l :=
  rslice_of Tryz.underlying22 cells_held (by omega) held_of h
end
end Go.Proofs.YticmfflnenoplacGreatDoor
namespace Go.Proofs.YticmfflnenoplacGreatDoor
open Go.RowKit Go.WideShapes

section
variable {H : Type} {enc : TypeId × Value → H} {w : World} {base b0 : Nat} {sp : Nat → Bool} {held : Bool} {r : Reach} {d : DataW H} {ps : List MemPlace} {v : Value}
theorem open_num {P : Program} {t : TypeId} {k : IntKind} (ht : P.underlying t = some (.int k)) (hval : Value.okWide P w r b0 t v) (hd : DataW.Trod enc P w base sp held t v d ps) : ∃ n, v = .int k n ∧ (Lit.int k n).wf = true := by
  obtain ⟨n, rfl⟩ := okWide_int ht hval
  obtain ⟨fuel, hf⟩ := hd
  obtain ⟨m, hm, _, hw⟩ := DataW.trod_int ht hf
  simp [Value.cells] at hm
  subst hm
  exact ⟨n, rfl, hw⟩
theorem open_str {P : Program} {t : TypeId} (ht : P.underlying t = some .string) (hval : Value.okWide P w r b0 t v) (hd : DataW.Trod enc P w base sp held t v d ps) : ∃ s, v = .string s ∧ s.size ≤ maxLen := by
  obtain ⟨s, rfl⟩ := okWide_string ht hval
  obtain ⟨fuel, hf⟩ := hd
  obtain ⟨m, hm, _, hw⟩ := DataW.trod_string ht hf
  simp [Value.cells] at hm
  subst hm
  exact ⟨s, rfl, hw⟩
theorem okWide_array {P : Program} {t e : TypeId} {n : Nat} (ht : P.underlying t = some (.array n e)) (h : Value.okWide P w r b0 t v) : ∃ cs, v = .agg cs ∧ cs.size = P.cellsOf t := by
  simp only [Value.okWide, ht] at h
  obtain ⟨cs, h1, h2, _⟩ := h
  exact ⟨cs, h1, h2⟩
end
end Go.Proofs.YticmfflnenoplacGreatDoor
