/- Chapter 9, the law DiskSays: the program's disk and the reference's answer alike, whatever the acts. -/
import Derived.Test.YticmfflnenoplaaDiskL
import Derived.Deep.CutBlock
namespace Go.Proofs.Yticmfflnenoplaa
open Go.RowKit Dk Da

theorem slice_val {α : Type} {w : World} {B C : Nat} {R : List Value → α → Prop} {v : Value} {l : List α} (h : RSlice w B C R [v] l) : ∃ A n c, v = .slice A n c := by
  obtain ⟨A, cap, hv, _⟩ := h.form
  exact ⟨A, _, cap, by simpa using hv⟩
theorem pod_val {w : World} {B : Nat} {p0 p1 p2 : Value} {p : Pod} (h : RPod w B [p0, p1, p2] p) : ∃ A n c, p0 = .string p.name ∧ p1 = .int .i64 p.prio ∧ p2 = .slice A n c := by
  obtain ⟨cv, he, _, _, hs⟩ := h
  obtain ⟨A, n, c, rfl⟩ := slice_val hs
  simp only [List.cons.injEq, and_true] at he
  exact ⟨A, n, c, he⟩

theorem Is.drewN {T e : TypeId} {w : World} {b : Nat} {wv : Value} {s : St} (h : Is T e w b wv s) (n : Nat) : Is T e (w.drewN n) b wv s := ⟨h.blk.drewN n, h.row⟩
def One (w0 w : World) (b : Nat) (s : St) : Prop := ∃ wv, Is DT DE w b wv s ∧ w0.heap.size ≤ b ∧ (∀ g, wv.ownBlock = some g → w0.heap.size ≤ g) ∧ Below w0.heap.size w0 w
def OnePost (w0 : World) (b : Nat) (v : Value) (s : St) (e : Ending) (w' : World) : Prop := e = .returned v ∧ One w0 w' b s
theorem One.call {w0 w : World} {b : Nat} {s s' : St} {f : FuncId} {args : Array Value} {v : Value} (h : One w0 w b s)
    (c : ∀ wv, Is DT DE w b wv s → Calls Try.prog f args w (OpPost DT DE b wv w v s')) : Calls Try.prog f args w (OnePost w0 b v s') := by
  obtain ⟨wv, h1, h2, h3, h4⟩ := h
  refine (c wv h1).mono fun e w' ⟨he, wv1, k1, ho, hk⟩ => ⟨he, wv1, k1, h2, ?_, h4.trans (hk.below h4.size ?_)⟩
  · intro g hg
    rcases ho with ho | ho
    · exact h3 g (ho ▸ hg)
    · exact Nat.le_trans h4.size (ho g hg)
  · rintro k hk' (x | x)
    · omega
    · have := h3 k x; omega

def xy : ByteArray := ⟨#[120, 121]⟩
set_option maxHeartbeats 1000000 in
theorem spins_any (w : World) : Calls Try.prog 12 #[] w (RetBB true w) := by
  have e1 : (writeS Dk.new xy).1 = 0 := by decide
  have e2 : (moveS (writeS Dk.new xy).2).1 = 0 := by decide
  have e3 : (syncS (moveS (writeS Dk.new xy).2).2).1 = 0 := by decide
  have E1 := Lib.hid e1
  have E2 := Lib.hid e2
  have E3 := Lib.hid e3
  clear e1 e2 e3
  go_enter Try.func12, Try.ntmps12
  go_wp2_with fail
  refine (DkP.new_any _).mono ?_
  rintro e w1 ⟨b, rfl, hi, hbe, hb⟩
  have h1 : One w w1 b Dk.new := ⟨_, hi, by omega, by simp [Value.ownBlock], hb⟩
  clear hi hbe hb
  have e4 := Lib.hid (show readS (restartS (syncS (moveS (writeS Dk.new xy).2).2).2 (kOf 0 (syncS (moveS (writeS Dk.new xy).2).2).2.wait.length) 0) = (xy, 0) by decide)
  go_wp2_with fail
  refine (h1.call fun wv h => DkP.write_any Dk.new xy b wv w1 (by decide) (by decide) (by decide) (by decide) h).mono ?_
  rintro e w2 ⟨rfl, h2⟩
  rw [E1.out]
  go_wp2_with fail
  refine (h2.call fun wv h => DkP.move_any (writeS Dk.new xy).2 b wv w2 (by decide) (by decide) (by decide) h).mono ?_
  rintro e w3 ⟨rfl, h3⟩
  rw [E2.out]
  go_wp2_with fail
  refine (h3.call fun wv h => DkP.sync_any (moveS (writeS Dk.new xy).2).2 b wv w3 (by decide) (by decide) h).mono ?_
  rintro e w4 ⟨rfl, h4⟩
  rw [E3.out]
  go_wp2_with fail
  refine (h4.call fun wv h => DkP.restart_all (syncS (moveS (writeS Dk.new xy).2).2).2 0 0 b wv w4 (by decide) h (by decide)).mono ?_
  rintro e w5 ⟨rfl, h5⟩
  go_wp2_with fail
  obtain ⟨wv, g1, g2, g3, g4⟩ := h5
  refine (DkP.read_any _ b wv w5 g1).mono ?_
  rintro e w6 ⟨rfl, rfl⟩
  rw [e4.out]
  unfold xy
  dsimp only
  go_wp2_with fail
  refine (same_any 0 (by omega) _).mono ?_
  rintro e w6 ⟨rfl, rfl⟩
  go_wp2_with fail
  refine (same_any 0 (by omega) _).mono ?_
  rintro e w6 ⟨rfl, rfl⟩
  go_wp2_with fail
  refine (same_any 0 (by omega) _).mono ?_
  rintro e w6 ⟨rfl, rfl⟩
  go_wp2_with fail
  refine (same_any 0 (by omega) _).mono ?_
  rintro e w6 ⟨rfl, rfl⟩
  go_wp2_with fail
  go_ret
  exact ⟨rfl, g4⟩

set_option maxRecDepth 100000 in
set_option maxHeartbeats 4000000 in
theorem diskSays_any (v : Value) (l : List LAct) (w : World) (h : RSlice w w.heap.size 10 (RAct w w.heap.size) [v] l) :
    Calls Try.prog 3 #[v] w (RetBB true w) := by
  obtain ⟨A, cap, hv, hl, hcap, hA⟩ := h.form
  obtain rfl : v = _ := by simpa using hv
  unfold maxLen at hcap
  have HL := fun (w1 : World) (hb : Below w.heap.size w w1) => lightActs_any (.slice A l.length cap) l 80 w1 w.heap.size hb.size ((h.mono fun _ _ h => h.below hb).below hb)
  have HL' := Lib.hid HL
  clear HL
  cases hla : lightActs l 80
  · rw [hla] at HL'
    clear hla
    go_enter Try.func3, Try.ntmps3
    go_wp2_with fail
    refine (spins_any _).mono ?_
    rintro e w1 ⟨rfl, hb1⟩
    go_wp2_with fail
    refine (HL'.out w1 hb1).mono ?_
    rintro e w2 ⟨rfl, hb2⟩
    go_wp2_with fail
    go_ret
    exact ⟨rfl, hb1.trans (hb2.mono hb1.size)⟩
  · rw [hla] at HL'
    have hlen : (l.length : Int) ≤ 80 := by
      simp only [lightActs, Bool.and_eq_true, decide_eq_true_eq] at hla
      exact hla.1
    clear hla
    go_enter Try.func3, Try.ntmps3
    go_wp2_with fail
    refine (spins_any _).mono ?_
    rintro e w1 ⟨rfl, hb1⟩
    go_wp2_with fail
    refine (HL'.out w1 hb1).mono ?_
    rintro e w2 ⟨rfl, hb2⟩
    clear HL'
    have hbw2 := hb1.trans (hb2.mono hb1.size)
    go_wp2_with fail
    refine (DkP.new_any _).mono ?_
    rintro e w3 ⟨bd, rfl, hi3, hbd, hb3⟩
    have HBD := Lib.hid hbd
    clear hbd
    go_wp2_with fail
    refine (DkR.new_any _).mono ?_
    rintro e w4 ⟨bm, rfl, hi4, hbm, hb4⟩
    have HBM := Lib.hid hbm
    clear hbm
    have hB : Both w w4 bd bm Dk.new Dk.new := by
      refine ⟨_, _, hi3.kept (Kept.of_below hb4) (S := fun _ => False) (fun h => h) (fun _ _ h => h), hi4, ?_, ?_, by simp [Value.ownBlock], by simp [Value.ownBlock], ?_⟩
      · rw [HBD.out]; exact hbw2.size
      · rw [HBM.out]; exact Nat.le_trans hbw2.size hb3.size
      · exact (hbw2.trans (hb3.mono hbw2.size)).trans (hb4.mono (Nat.le_trans hbw2.size hb3.size))
    clear hi3 hi4 HBD HBM hb3 hb4 hbw2 hb1 hb2
    go_wp2_with fail
    go_loopw [6] (fun i wr => ∃ k : Nat, i = .int .i64 k ∧ k ≤ l.length ∧ ∃ s, Both w wr bd bm s s ∧ Fine k s) (fun i _ => l.length - (intOf i).toNat)
    case atStart => exact ⟨0, rfl, by omega, _, hB, Fine.new⟩
    case round =>
      obtain ⟨k, rfl, hk, s, hbo, hfi⟩ := hrel
      clear hB
      by_cases hlt : k < l.length
      · obtain ⟨b, off, rfl⟩ := hA k hlt
        have hbl := hbo.below
        obtain ⟨hblt, cs', hc1, hc2, lv, p0, p1, p2, uv, hr1, hr2, hr3, hr4, hr5, _, hls, hpd, hus⟩ := (h.below hbl).at_ hlt
        obtain ⟨A5, n5, c5, rfl⟩ := slice_val hls
        obtain ⟨A9, n9, c9, rfl⟩ := slice_val hus
        obtain ⟨A8, n8, c8, rfl, rfl, rfl⟩ := pod_val hpd
        clear hls hpd hus
        have g0 := hc2 0 _ (by rw [hr1]; rfl)
        have g1 := hc2 1 _ (by rw [hr1]; rfl)
        have g2 := hc2 2 _ (by rw [hr1]; rfl)
        have g3 := hc2 3 _ (by rw [hr1]; rfl)
        have g4 := hc2 4 _ (by rw [hr1]; rfl)
        have g5 := hc2 5 _ (by rw [hr1]; rfl)
        have g6 := hc2 6 _ (by rw [hr1]; rfl)
        have g7 := hc2 7 _ (by rw [hr1]; rfl)
        have g8 := hc2 8 _ (by rw [hr1]; rfl)
        have g9 := hc2 9 _ (by rw [hr1]; rfl)
        simp only [Nat.add_zero] at g0
        clear hc2 hr1 hA hc1 hv
        unfold maxLen at hr2 hr3
        generalize l[k] = x at *
        obtain ⟨kind, str, xa, xb, xm, xl, xp, xu⟩ := x
        dsimp only at *
        have hN := Lib.hid (nums_ok s str)
        have hft : s.wait.length ≤ 1000 := Nat.le_trans hfi.f3 (by omega)
        have hsz : str.size ≤ 9223372036854775807 := hr3
        go_upto_block 2 with fail
        go_cut [8] (fun s8 wx => s8 = .bool true ∧ ∃ s', Both w wx bd bm s' s' ∧ Fine (k + 1) s')
        case first =>
          go_wp2_with fail
          · have hact := (Blk.new wr 36 #[.string kind, .string str, .int .i64 xa, .int .i64 xb, .int .u8 xm, .slice A5 n5 c5, .string xp.name, .int .i64 xp.prio, .slice A8 n8 c8, .slice A9 n9 c9])
            have hact1 := hact.cell 1
            go_region_held3 (fun w' => w'.cell? ⟨wr.heap.size, 1, none⟩ = some (.string str)) (first | exact hact1 | exact hx5 | exact hx6)
              (first | (go_at_call 17; refine ((hbo.alloc _).drew.callP fun wv h => DkP.write_any s str bd wv _ hfi.f1 hfi.f2 hsz hft h).mono ?_; rintro e w5 ⟨rfl, hb5, ha5, _⟩; have hx5 := (ha5 _ _ hact).cell 1) | (go_at_call 18; refine (hb5.callR fun wv h => DkR.write_any s str bm wv _ hfi.f1 hfi.f2 hsz hft h).mono ?_; rintro e w6 ⟨rfl, hb6, ha6, _⟩; have hx6 := (ha6 _ _ (ha5 _ _ hact)).cell 1; unfold DkR.V) | (go_at_call 16; refine (same_any _ hN.out.1 _).mono ?_; rintro e w7 ⟨rfl, rfl⟩))
            all_goals
              go_wp2_with fail
              go_meet
              exact ⟨rfl, _, hb6, hfi.writeS str⟩
          · refine ((hbo.alloc _).callP fun wv h => DkP.move_any s bd wv _ hfi.f1 hfi.f2 hft h).mono ?_
            rintro e w5 ⟨rfl, hb5, _, _⟩
            go_wp2_with fail
            refine (hb5.callR fun wv h => DkR.move_any s bm wv _ hfi.f1 hfi.f2 hft h).mono ?_
            rintro e w6 ⟨rfl, hb6, _, _⟩
            unfold DkR.V
            go_wp2_with fail
            refine (same_any _ hN.out.2.1 _).mono ?_
            rintro e w7 ⟨rfl, rfl⟩
            go_wp2_with fail
            go_meet
            exact ⟨rfl, _, hb6, hfi.moveS⟩
          · refine ((hbo.alloc _).callP fun wv h => DkP.sync_any s bd wv _ hfi.f1 hfi.f2 h).mono ?_
            rintro e w5 ⟨rfl, hb5, _, _⟩
            go_wp2_with fail
            refine (hb5.callR fun wv h => DkR.sync_any s bm wv _ hfi.f1 hfi.f2 h).mono ?_
            rintro e w6 ⟨rfl, hb6, _, _⟩
            unfold DkR.V
            go_wp2_with fail
            refine (same_any _ hN.out.2.2.1 _).mono ?_
            rintro e w7 ⟨rfl, rfl⟩
            go_wp2_with fail
            go_meet
            exact ⟨rfl, _, hb6, hfi.syncS⟩
          · refine ((hbo.alloc _).callP fun wv h => DkP.step_any s bd wv _ hfi.f1 hfi.f2 h).mono ?_
            rintro e w5 ⟨rfl, hb5, _, _⟩
            go_wp2_with fail
            refine (hb5.callR fun wv h => DkR.step_any s bm wv _ hfi.f1 hfi.f2 h).mono ?_
            rintro e w6 ⟨rfl, hb6, _, _⟩
            unfold DkR.V
            go_wp2_with fail
            refine (same_any _ hN.out.2.2.2.1 _).mono ?_
            rintro e w7 ⟨rfl, rfl⟩
            go_wp2_with fail
            go_meet
            exact ⟨rfl, _, hb6, hfi.stepS⟩
          · refine ((hbo.alloc _).callP fun wv h => DkP.arm_any s xa bd wv _ h).mono ?_
            rintro e w5 ⟨rfl, hb5, ha5, _⟩
            have hx5 := (ha5 _ _ (Blk.new wr _ _)).cell 2
            obtain ⟨wv, wv', q1, q2, q3, q4, q5, q6, q7⟩ := hb5
            have hmc := q2.blk.cell 9
            have hmf := q2.blk.frozen 9
            unfold Dk.cells at hmc
            rcases Int.lt_or_le xa (-1) with hx | hx
            · go_wp2_with fail
              go_meet
              have hz : armS s xa = armS s (-1) := by simp only [armS]; congr 1; omega
              have hst : After RT RE bm wv' (armS s xa) w5 (w5.setCell ⟨bm, 9, none⟩ (.int .i64 (-1))) := q2.step (by rw [hz]; exact q2.blk.set_ 9 _) rfl ((Kept.refl _ _).set1 _) (by decide)
              exact ⟨rfl, _, (Both.ofR q1 q2 q3 q4 q5 q6 q7 hst).1, hfi.armS hr4.2⟩
            · go_wp2_with fail
              go_meet
              have hst : After RT RE bm wv' (armS s xa) w5 (w5.setCell ⟨bm, 9, none⟩ (.int .i64 xa)) := q2.step (Blk.cast (q2.blk.set_ 9 _) (by simp [Dk.cells, armS]; omega)) rfl ((Kept.refl _ _).set1 _) (by decide)
              exact ⟨rfl, _, (Both.ofR q1 q2 q3 q4 q5 q6 q7 hst).1, hfi.armS hr4.2⟩
          · refine ((hbo.alloc _).callP fun wv h => DkP.spoil_any s str bd wv _ hsz h).mono ?_
            rintro e w5 ⟨rfl, hb5, ha5, _⟩
            have hx5 := (ha5 _ _ (Blk.new wr _ _)).cell 1
            go_wp2_with fail
            refine (hb5.callR fun wv h => DkR.spoil_any s str bm wv _ hsz h).mono ?_
            rintro e w6 ⟨rfl, hb6, _, _⟩
            go_wp2_with fail
            go_meet
            exact ⟨rfl, _, hb6, hfi.spoilS str⟩
          · refine ((hbo.alloc _).callP fun wv h => DkP.restart_all s xa xb bd wv _ hft h hfi.f4).mono ?_
            rintro e w5 ⟨rfl, hb5, ha5, _⟩
            have hx5 := (ha5 _ _ (Blk.new wr _ _)).cell 2
            have hx6 := (ha5 _ _ (Blk.new wr _ _)).cell 3
            go_wp2_with fail
            refine (hb5.callR fun wv h => DkR.restart_all s xa xb bm wv _ hft h hfi.f4).mono ?_
            rintro e w6 ⟨rfl, hb6, _, _⟩
            go_wp2_with fail
            go_meet
            exact ⟨rfl, _, hb6, Fine.restartS _ _⟩
        case rest =>
          obtain ⟨rfl, s', hbo', hfi'⟩ := hcut
          obtain ⟨wv, wv', q1, q2, q3, q4, q5, q6, q7⟩ := hbo'
          have hmc := q2.blk.cell 10
          unfold Dk.cells at hmc
          have hN2 := Lib.hid (nums_ok s' str)
          go_wp2_with fail
          refine (DkP.read_any s' bd wv _ q1).mono ?_
          rintro e w7 ⟨rfl, rfl⟩
          go_wp2_with fail
          refine (DkR.read_any s' bm wv' _ q2).mono ?_
          rintro e w7 ⟨rfl, rfl⟩
          unfold DkR.V
          go_wp2_with fail
          go_quiet ((first | (go_at_call 16; exact Calls.quiet_of_same ((same_any _ hN2.out.2.2.2.2 _).mono fun _ _ hh => ⟨hh.1, hh.2.symm⟩)) | (go_at_call 32; exact Calls.quiet_of_same ((DkP.down_any s' bd wv _ (Is.drewN q1 _)).mono fun _ _ hh => ⟨hh.1, hh.2.symm⟩))))
          go_wp2_with fail
          go_roundw
          case rel => exact ⟨k + 1, by go_num, by omega, s', ⟨wv, wv', Is.drewN q1 _, Is.drewN q2 _, q3, q4, q5, q6, ⟨q7.os, q7.tape, q7.output, q7.size, q7.block⟩⟩, hfi'⟩
          case measure => simp [intOf]; omega
      · go_wp2_with fail
        go_ret
        exact ⟨rfl, hbo.below⟩
end Go.Proofs.Yticmfflnenoplaa
