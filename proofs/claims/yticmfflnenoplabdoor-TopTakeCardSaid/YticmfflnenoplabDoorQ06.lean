/- Texts laid together: TopoG, TpB, TtA, Rd, CpuRd, Open. No statement is proved here. -/
import Derived.OpenShut
import Derived.ChangeArms
import Derived.ProofKit
import Derived.Test.YticmfflnenoplabDoorQ05
namespace Go.Proofs.YticmfflnenoplabDoor
open Go.RowKit Tp
theorem RS.keep {α : Type} {w w' : World} {B C : Nat} {R : List Value → α → Prop} {cs : List Value} {l : List α} (h : RS w (· < B) C R cs l) (hb : Below B w w') : RS w' (· < B) C R cs l :=
  h.move (fun b hb' => hb.block b hb') (fun _ h => h) (fun _ _ _ h => h)
def l0 : List Cpu := [⟨0, 0, 0⟩, ⟨1, 0, 1⟩]
theorem fault0 : Fault l0 = 0 := by decide +kernel
theorem all0 : wh (fun _ => true) l0 l0.length = 3 := by decide +kernel
theorem on0 : wh (fun c => onB 2 c) l0 l0.length = 2 := by decide +kernel
theorem node0 : ∀ c, c ∈ l0 → 0 ≤ c.node ∧ c.node ≤ 3 := by
  intro c hc
  simp [l0] at hc
  rcases hc with rfl | rfl <;> simp
section
attribute [local irreducible] Fault wh TopoAt
end
end Go.Proofs.YticmfflnenoplabDoor
namespace Go.Proofs.YticmfflnenoplabDoor
open Go.RowKit Tp Pop
def lz : List Cpu := [⟨0, 0, 0⟩]
theorem faultz : Fault lz = 0 := by decide +kernel
theorem allz : wh (fun _ => true) lz lz.length = 1 := by decide +kernel
theorem new_z (w : World) : Calls Tryd.prog 21 #[.slice (some ⟨w.heap.size, 0, none⟩) 1 1] (w.alloc (.cells #[.int .i64 0, .int .i64 0, .int .i64 0] 48))
    (fun e w' => ∃ p, e = .returned (.tuple #[.pointer (some ⟨p, 0, none⟩), .nilIface]) ∧ p < w'.heap.size ∧ TopoAt w' (· < w'.heap.size) p lz ∧ Below (w.heap.size + 1) (w.alloc (.cells #[.int .i64 0, .int .i64 0, .int .i64 0] 48)) w') := by
  have b0 := Blk.new w 48 #[.int .i64 0, .int .i64 0, .int .i64 0]
  have hrs : RS (w.alloc (.cells #[.int .i64 0, .int .i64 0, .int .i64 0] 48)) (· < w.heap.size + 1) 3 RCpu [.slice (some ⟨w.heap.size, 0, none⟩) 1 1] lz :=
    RS.blk (l := lz) (f := Cpu.cells) (S := (· < w.heap.size + 1)) b0 rfl (by simp [lz, maxLen]) (fun x _ => rfl) (fun x hx => by
      simp [lz] at hx
      subst hx
      exact ⟨rfl, by decide, by decide, by decide⟩) (by show w.heap.size < w.heap.size + 1; omega)
  refine (New_any lz _ (w.heap.size + 1) _ (by simp) hrs).mono ?_
  rintro e w1 ⟨hb1, h1⟩
  rcases h1 with ⟨_, p, rfl, hp, hT⟩ | ⟨hne, _⟩
  · have hpl : p < w1.heap.size := by
      have h := hT
      unfold TopoAt at h
      obtain ⟨_, h, _⟩ := h
      exact h.lt
    exact ⟨p, rfl, hpl, hT, by simpa using hb1⟩
  · exact absurd faultz hne
theorem all_z (p : Nat) (w : World) (hT : TopoAt w (· < w.heap.size) p lz) : Calls Tryd.prog 23 #[.pointer (some ⟨p, 0, none⟩)] w (RetU 1 w) := by
  have h := All_any lz (by decide) _ p _ (Nat.le_refl _) hT
  rw [allz] at h
  exact h
theorem New_two (l : List Cpu) (v : Value) (B : Nat) (w : World) (hB : B ≤ w.heap.size) (hR : RS w (· < B) 3 RCpu [v] l) : Calls Tryd.prog 21 #[v] w
    (fun e w' => Below w.heap.size w w' ∧ ((Fault l = 0 ∧ ∃ p, e = .returned (.tuple #[.pointer (some ⟨p, 0, none⟩), .nilIface]) ∧ p < w'.heap.size ∧ TopoAt w' (· < w'.heap.size) p l) ∨ (∃ f, f ≠ 0 ∧ e = .returned (.tuple #[.pointer none, errV f])))) := by
  refine (New_any l v B w hB hR).mono ?_
  rintro e w1 ⟨hb1, h1⟩
  refine ⟨hb1, ?_⟩
  rcases h1 with ⟨hF, p, rfl, hp, hT⟩ | ⟨hne, rfl⟩
  · refine .inl ⟨hF, p, rfl, ?_, hT⟩
    have h := hT
    unfold TopoAt at h
    obtain ⟨_, h, _⟩ := h
    exact h.lt
  · exact .inr ⟨_, hne, rfl⟩
theorem min4 (n : Nat) (h : ¬ n < 4) : min (n + 1) 4 = min n 4 := by omega
section
attribute [local irreducible] Fault wh TopoAt W low nods cnt bit
end
end Go.Proofs.YticmfflnenoplabDoor
namespace Go.Proofs.YticmfflnenoplabDoor
open Go.RowKit Go.Deep Go.ChangeShapes Go.Maps Pop Bi Tp Pk
theorem take_z : takeP lz 1 1 (onM lz fun c => onB 1 c) = (1, 0) := by decide +kernel
theorem finez : Fine lz := fine_of lz faultz
theorem wholeB_next (l : List Cpu) (s k : Nat) : wholeB l s (k + 1) = (wholeB l s k || (decide (coreM l k = s) || (decide (coreM l k ||| s = s) && decide (coreM l k ≠ 0)))) := rfl
section
attribute [local irreducible] Fault wh TopoAt cnt takeP insF onM coreM wholeB
set_option maxRecDepth 100000 in
set_option maxHeartbeats 16000000 in
theorem topTake_any (l : List Cpu) (v : Value) (fr m : Nat) (many : Int) (hfr : fr < 18446744073709551616) (hm : m < 256) (hmb : -9223372036854775808 ≤ many ∧ many ≤ 9223372036854775807) (w : World) (hTB : TabAt 0 Lib.deBruijn64tab w) (_hg : 0 < w.heap.size) (hR : RS w (· < w.heap.size) 3 RCpu [v] l) :
    Calls Tryd.prog 4 #[v, .int .u64 fr, .int .i64 many, .int .u8 m] w (RetBB true w) := by
  obtain ⟨A, c, e, hc1, hc2, hA⟩ := hR.form
  obtain rfl : v = _ := by simpa using e
  unfold maxLen at hc2
  have HR := Lib.hid hR
  have HTB := Lib.hid hTB
  have HN := Lib.hid (new_z w)
  have hba : Below w.heap.size w (w.alloc (.cells #[.int .i64 0, .int .i64 0, .int .i64 0] 48)) := (Below.refl _ _).alloc (Nat.le_refl _) _
  clear hA hR e hTB
  go_enter Tryd.func4, Tryd.ntmps4
  go_wp2_with fail
  refine HN.out.mono ?_
  rintro e w1 ⟨p, rfl, hp, hT, hb1⟩
  have hbel1 := hba.trans (hb1.mono (by omega))
  have hz1 := hbel1.size
  have ht1 := Take_any p w1.heap.size 1 1 1 (by decide) (by decide) lz (by decide) finez.node w1 (TabAt.below HTB.out hbel1) (by omega) (Nat.le_refl _) hp hT
  rw [take_z] at ht1
  have HT1 : Hid (Calls Tryd.prog 22 #[.pointer (some ⟨p, 0, none⟩), .int .u64 1, .int .i64 1, .int .u8 1] w1 (fun e w' => e = .returned (.tuple #[.int .u64 1, .nilIface]) ∧ Below w1.heap.size w1 w')) := Lib.hid ht1
  clear hb1 hba HN hT ht1
  go_wp2_with fail
  refine HT1.out.mono ?_
  rintro e w2 ⟨rfl, hb2⟩
  have hbel2 := hbel1.trans (hb2.mono hz1)
  have hz2 := hbel2.size
  clear hb2 hbel1 HT1 hp hz1
  by_cases h70 : 70 < l.length
  · go_wp2_with fail
    go_ret
    exact ⟨rfl, hbel2⟩
  have HN := Lib.hid (New_two l _ w.heap.size w2 hbel2.size (HR.out.keep hbel2))
  have h70d : decide ((70 : Int) < l.length) = false := decide_eq_false (by omega)
  clear HR
  go_wp2_with fail
  refine HN.out.mono ?_
  rintro e w3 ⟨hb3, h3⟩
  have hbel3 := hbel2.trans (hb3.mono hbel2.size)
  have hz3 := hbel3.size
  clear hb3 hbel2 HN hz2
  rcases h3 with ⟨hF, p, rfl, hp, hT⟩ | ⟨f, hf, rfl⟩
  · have hFi := fine_of l hF
    have hlen := hFi.len
    have HT := Lib.hid hT
    have HTK := Lib.hid (Take_any p w3.heap.size fr m many hfr hm l hlen.2 hFi.node w3 (TabAt.below HTB.out hbel3) (by omega) (Nat.le_refl _) hp hT)
    have HAL : Hid (∀ W, Below w3.heap.size w3 W → Calls Tryd.prog 23 #[.pointer (some ⟨p, 0, none⟩)] W (RetU (onM l fun _ => true) W)) := Lib.hid (fun W hW => by
      have := All_any l hlen.2 w3.heap.size p W hW.size (hT.below hW hp)
      unfold onM
      exact this)
    have HON : Hid (∀ W, Below w3.heap.size w3 W → Calls Tryd.prog 24 #[.pointer (some ⟨p, 0, none⟩), .int .u8 m] W (RetU (onM l fun c => onB m c) W)) := Lib.hid (fun W hW => by
      have := On_any m hm l hlen.2 w3.heap.size p W hW.size hp (hT.below hW hp) hFi.node
      unfold onM
      exact this)
    have HCO : Hid (∀ (k : Nat) W, Below w3.heap.size w3 W → Calls Tryd.prog 25 #[.pointer (some ⟨p, 0, none⟩), .int .i64 k] W (RetU (coreM l k) W)) := Lib.hid (fun k W hW => by
      have := Core_any (k : Int) l hlen.2 w3.heap.size p W hW.size hp (hT.below hW hp)
      unfold coreM
      exact this)
    have hal := onM_lt l hlen.2 (fun _ => true)
    have hon := onM_lt l hlen.2 (fun c => onB m c)
    have HCL := Lib.hid (fun k : Nat => coreM_lt l hlen.2 (k : Int))
    have HIN := Lib.hid (fun W => Inside_any fr _ hfr hal W)
    have HCN := Lib.hid (fun W => Count_any fr hfr W)
    have HCS := Lib.hid (take_cases l fr many (onM l fun c => onB m c))
    have HFI := Lib.hid hFi
    have hc64 := Pk.cnt_le64 fr
    clear hF hFi hT HT HTB
    go_wp2_with fail
    refine HTK.out.mono ?_
    intro e w4 hP
    have hP2 : TakeR (takeP l fr many (onM l fun c => onB m c)) w3 e w4 := hP
    obtain ⟨rfl, hb4⟩ := hP2
    clear hP HTK
    rcases HCS.out with ⟨n, rfl, hn64, hncf, hin, hr⟩ | ⟨hbad, f, hf, hr⟩
    · have hok := take_ok HFI.out hfr (on := onM l fun c => onB m c) hncf hin
      have hokl := hok.lt
      have hokm := hok.many
      have hoks := hok.sub
      have hoke := hok.near
      have HCR := Lib.hid hok.core
      rw [hr]
      dsimp only
      rw [errV_0]
      generalize (someP l (someP l ⟨fr, 0, n⟩ (onM l fun c => onB m c)) (onM l fun _ => true)).taken = s at *
      have hb4' := hbel3.trans (hb4.mono hz3)
      have hand := u64_and_nat fr (onM l fun c => onB m c) hfr hon
      have hand2 := u64_and_nat s (onM l fun c => onB m c) hokl hon
      have hl1 : fr &&& (onM l fun c => onB m c) < 18446744073709551616 := Nat.lt_of_le_of_lt Nat.and_le_left hfr
      have hl2 : s &&& (onM l fun c => onB m c) < 18446744073709551616 := Nat.lt_of_le_of_lt Nat.and_le_left hokl
      have HC1 := Lib.hid (fun W => Count_any _ hl1 W)
      have HC2 := Lib.hid (fun W => Count_any _ hl2 W)
      have HC3 := Lib.hid (fun W => Count_any s hokl W)
      have HI2 := Lib.hid (fun W => Inside_any s fr hokl hfr W)
      have HI3 := Lib.hid (fun k W => Inside_any (coreM l (k : Nat)) _ (HCL.out k) hl1 W)
      have HC4 := Lib.hid (fun k W => Count_any (coreM l (k : Nat)) (HCL.out k) W)
      rw [hoks] at HI2
      rw [hokm] at HC3
      rw [hoke] at HC2
      clear hr HCS hal HIN HCN HAL hok hoks hokm hoke HFI hin hn64
      have hcn64 := Pk.cnt_le64 (fr &&& (onM l fun c => onB m c))
      generalize (onM l fun c => onB m c) = on at *
      generalize (fr &&& on : Nat) = fo at *
      generalize (s &&& on : Nat) = so at *
      generalize cnt fo 64 = near at *
      obtain ⟨mn, hmn0⟩ : ∃ mn : Nat, mn = min n near := ⟨_, rfl⟩
      have hmn : min (n : Int) near = mn := by omega
      rw [← hmn0] at HC2
      clear hmn0
      go_wp2_with fail
      refine (HON.out w4 hb4).mono ?_
      rintro e w5 ⟨rfl, hb5⟩
      have hb5' := hb4.trans (hb5.mono hb4.size)
      clear hb5 hb4
      go_wp2_with fail
      refine (HC1.out w5).mono ?_
      rintro e w6 ⟨rfl, rfl⟩
      go_wp2_with fail
      refine (HC3.out w5).mono ?_
      rintro e w6 ⟨rfl, rfl⟩
      go_wp2_with fail
      refine (HI2.out w5).mono ?_
      rintro e w6 ⟨rfl, rfl⟩
      go_wp2_with fail
      refine (HON.out w5 hb5').mono ?_
      rintro e w6 ⟨rfl, hb6⟩
      have hb6' := hb5'.trans (hb6.mono hb5'.size)
      clear hb6 hb5' hb4'
      go_wp2_with fail
      refine (HC2.out w6).mono ?_
      rintro e w7 ⟨rfl, rfl⟩
      have hbw := hbel3.trans (hb6'.mono hz3)
      by_cases hnr : near < n
      · go_wp2_with fail
        go_ret
        exact ⟨rfl, hbw⟩
      have HC5 := Lib.hid (HCR.out (by omega))
      clear HC1 HC2 HC3 HI2 HCR hand2 hl2 hbw
      go_wp2_with fail
      clear hmn
      go_loopw [13] (fun i wr => ∃ k : Nat, i = .int .i64 k ∧ k ≤ 64 ∧ Below w3.heap.size w3 wr) (fun i _ => 64 - (intOf i).toNat)
      case atStart => exact ⟨0, rfl, by omega, hb6'⟩
      case round =>
        clear hb6'
        obtain ⟨k, rfl, hk, hb⟩ := hrel
        by_cases hlt : k < 64
        · have HCK := Lib.hid (HCO.out k wr hb)
          have HIK := Lib.hid (HI3.out k)
          have HNK := Lib.hid (HC4.out k)
          have HCY := Lib.hid (HC5.out k hlt)
          generalize hcm : coreM l (k : Int) = cm at *
          clear hcm HI3 HC4 HC5
          go_wp2_with fail
          refine HCK.out.mono ?_
          rintro e w8 ⟨rfl, hb8⟩
          have hb8' := hb.trans (hb8.mono hb.size)
          clear hb8 hb HCK
          by_cases hc0 : cm = 0
          · have hz : ((cm : Int) != 0) = false := by simp; omega
            clear HCY HIK HNK hc0
            go_wp2_with fail
            go_roundw
            case rel => exact ⟨k + 1, by go_num, by omega, hb8'⟩
            case measure => simp [intOf]; omega
          · have hz : ((cm : Int) != 0) = true := by simp; omega
            go_wp2_with fail
            refine (HON.out w8 hb8').mono ?_
            rintro e w9 ⟨rfl, hb9⟩
            have hb9' := hb8'.trans (hb9.mono hb8'.size)
            clear hb9 hb8'
            go_wp2_with fail
            refine (HIK.out w9).mono ?_
            rintro e w10 ⟨rfl, rfl⟩
            cases hin : insF cm fo
            · clear HCY HIK HNK hin
              go_wp2_with fail
              go_roundw
              case rel => exact ⟨k + 1, by go_num, by omega, hb9'⟩
              case measure => simp [intOf]; omega
            · go_wp2_with fail
              refine (HNK.out w9).mono ?_
              rintro e w10 ⟨rfl, rfl⟩
              by_cases hcn : cnt cm 64 = n
              · obtain ⟨j, hj64, hj0, hjs⟩ := HCY.out hc0 hin hcn
                have HWY := Lib.hid (wholeB_yes hj0 hjs 64 hj64)
                have hceq : ((cnt cm 64 : Nat) : Int) = n := by omega
                have hceq2 : (((cnt cm 64 : Nat) : Int) == n) = true := by simp; omega
                have HW0 : Hid (wholeB l s 0 = false) := Lib.hid (by unfold wholeB; rfl)
                clear HCY HIK HNK hcn hin hj0 hjs hceq hc0
                generalize cnt cm 64 = cc at *
                go_wp2_with fail
                obtain ⟨wo, rfl⟩ : ∃ wo : World, wo = w9 := ⟨_, rfl⟩
                go_loopw [15, 16] (fun x i wr => ∃ q : Nat, i = .int .i64 q ∧ q ≤ 64 ∧ x = .bool (wholeB l s q) ∧ Below w3.heap.size w3 wr) (fun x i _ => 64 - (intOf i).toNat)
                case atStart => exact ⟨0, rfl, by omega, by rw [HW0.out], hb9'⟩
                case round =>
                  clear HW0 hb9'
                  obtain ⟨q, rfl, hq, rfl, hb⟩ := hrel
                  by_cases hlq : q < 64
                  · have HCQ := Lib.hid (HCO.out q)
                    have HNX := Lib.hid (wholeB_next l s q)
                    have hcql := HCL.out q
                    have hor := u64_or_nat (coreM l q) s hcql hokl
                    clear HWY
                    generalize coreM l (q : Int) = cq at *
                    generalize hbo : wholeB l s q = bo at *
                    clear hbo
                    cases bo
                    · go_wp2_with fail
                      refine (HCQ.out _ hb).mono ?_
                      rintro e w11 ⟨rfl, hb11⟩
                      have hb11' := hb.trans (hb11.mono hb.size)
                      clear hb11 hb
                      by_cases he : cq = s
                      · have hz : ((cq : Int) == s) = true := by simp; omega
                        have HE := Lib.hid he
                        clear he
                        go_wp2_with fail
                        go_roundw
                        case rel => exact ⟨q + 1, by go_num, by omega, by rw [HNX.out]; simp [HE.out], hb11'⟩
                        case measure => simp [intOf]; omega
                      · have hz : ((cq : Int) == s) = false := by simp; omega
                        go_wp2_with fail
                        refine (HCQ.out _ hb11').mono ?_
                        rintro e w12 ⟨rfl, hb12⟩
                        have hb12' := hb11'.trans (hb12.mono hb11'.size)
                        clear hb12 hb11'
                        by_cases ho : cq ||| s = s
                        · have HO := Lib.hid ho
                          have HE := Lib.hid he
                          rw [ho] at hor
                          clear ho he
                          go_wp2_with fail
                          refine (HCQ.out _ hb12').mono ?_
                          rintro e w13 ⟨rfl, hb13⟩
                          have hb13' := hb12'.trans (hb13.mono hb12'.size)
                          clear hb13 hb12'
                          by_cases h0 : cq = 0
                          · have hz0 : ((cq : Int) != 0) = false := by simp; omega
                            have H0 := Lib.hid h0
                            clear h0
                            go_wp2_with fail
                            go_roundw
                            case rel => exact ⟨q + 1, by go_num, by omega, by rw [HNX.out]; simp [H0.out]; have := HE.out; have := H0.out; omega, hb13'⟩
                            case measure => simp [intOf]; omega
                          · have hz0 : ((cq : Int) != 0) = true := by simp; omega
                            have H0 := Lib.hid h0
                            clear h0
                            go_wp2_with fail
                            go_roundw
                            case rel => exact ⟨q + 1, by go_num, by omega, by rw [HNX.out]; simp [HO.out, H0.out], hb13'⟩
                            case measure => simp [intOf]; omega
                        · have HO := Lib.hid ho
                          have HE := Lib.hid he
                          have hz1 : (((cq ||| s : Nat) : Int) == s) = false := by simp; omega
                          generalize (cq ||| s : Nat) = co at *
                          clear ho he
                          go_wp2_with fail
                          go_roundw
                          case rel => exact ⟨q + 1, by go_num, by omega, by rw [HNX.out]; simp [HE.out, HO.out], hb12'⟩
                          case measure => simp [intOf]; omega
                    · go_wp2_with fail
                      go_roundw
                      case rel => exact ⟨q + 1, by go_num, by omega, by rw [HNX.out]; simp, hb⟩
                      case measure => simp [intOf]; omega
                  · obtain rfl : q = 64 := by omega
                    rw [HWY.out]
                    go_wp2_with fail
                    go_ret
                    exact ⟨rfl, hbel3.trans (hb.mono hz3)⟩
              · have hcne : (((cnt cm 64 : Nat) : Int) == n) = false := by simp; omega
                clear HCY HIK HNK hcn hin hc0
                generalize cnt cm 64 = cc at *
                go_wp2_with fail
                go_roundw
                case rel => exact ⟨k + 1, by go_num, by omega, hb9'⟩
                case measure => simp [intOf]; omega
        · obtain rfl : k = 64 := by omega
          go_wp2_with fail
          go_ret
          exact ⟨rfl, hbel3.trans (hb.mono hz3)⟩
    · have hb4' := hbel3.trans (hb4.mono hz3)
      have hev := errV_pos f hf
      rw [hr]
      dsimp only
      rw [hev]
      clear hr hev HCS HON HCO HCL HFI hon
      by_cases h1 : many < 0
      · go_wp2_with fail
        go_ret
        exact ⟨rfl, hb4'⟩
      · by_cases h2 : 64 < many
        · go_wp2_with fail
          go_ret
          exact ⟨rfl, hb4'⟩
        · go_wp2_with fail
          refine (HAL.out w4 hb4).mono ?_
          rintro e w5 ⟨rfl, hb5⟩
          have hb5' := hb4'.trans (hb5.mono hb4'.size)
          go_wp2_with fail
          refine (HIN.out w5).mono ?_
          rintro e w6 ⟨rfl, rfl⟩
          cases hin : insF fr (onM l fun _ => true)
          · go_wp2_with fail
            go_ret
            exact ⟨rfl, hb5'⟩
          · have hlt : (cnt fr 64 : Int) < many := by
              rcases hbad with h | h | h | h
              · omega
              · omega
              · rw [hin] at h; cases h
              · exact h
            go_wp2_with fail
            refine (HCN.out w5).mono ?_
            rintro e w6 ⟨rfl, rfl⟩
            go_wp2_with fail
            go_ret
            exact ⟨by first | rfl | simp, hb5'⟩
  · have hev := errV_pos f hf
    rw [hev]
    clear hev
    go_wp2_with fail
    go_ret
    exact ⟨rfl, hbel3⟩
end
end Go.Proofs.YticmfflnenoplabDoor
namespace Go.Proofs.YticmfflnenoplabDoor.Rd
open Go.RowKit Go.Deep
section
variable {H : Type} {enc : TypeId × Value → H} {w : World} {spare : Nat → Bool} {held : Bool}
theorem two {β : Type} {l : List β} (h : l.length = 2) : ∃ c0 c1, l = [c0, c1] := by
  match l, h with
  | [c0, c1], _ => exact ⟨c0, c1, rfl⟩
theorem three {β : Type} {l : List β} (h : l.length = 3) : ∃ c0 c1 c2, l = [c0, c1, c2] := by
  match l, h with
  | [c0, c1, c2], _ => exact ⟨c0, c1, c2, rfl⟩
theorem sm {β : Type} {xs : List β} {n i : Nat} (h : xs.length = n) (hi : i < n) : ∃ y, xs[i]? = some y := ⟨xs[i], List.getElem?_eq_getElem (by omega)⟩
theorem fld {P : Program} {fs : Array Field} {n i off sz : Nat} {f : Field} {t : TypeId} {cs : List Value} {xs : List (DataW H × List MemPlace)} {y : DataW H × List MemPlace}
    (hf : ∀ (i : Nat) (f : Field), fs[i]? = some f → DataW.trod enc P w 0 spare held n f.type ((cs.drop f.offset).take (P.cellsOf f.type)) = xs[i]?) (hi : fs[i]? = some f) (ht : f.type = t) (ho : f.offset = off) (hs : P.cellsOf t = sz) (e : xs[i]? = some y) :
    DataW.trod enc P w 0 spare held n t ((cs.drop off).take sz) = some y := by
  have := hf i f hi
  rw [ht, ho, hs, e] at this
  exact this
end
end Go.Proofs.YticmfflnenoplabDoor.Rd
namespace Go.Proofs.YticmfflnenoplabDoor
open Go.RowKit Go.Deep Tp
section
variable {H : Type} {enc : TypeId × Value → H} {w : World} {spare : Nat → Bool} {held : Bool}
theorem rcells_cpu : Tryd.prog.cellsOf 48 = 3 := by kernel_rfl
theorem rcells_int : Tryd.prog.cellsOf 3 = 1 := by kernel_rfl
theorem cpu_of (fuel : Nat) (cs : List Value) (x : DataW H × List MemPlace) (h : DataW.trod enc Tryd.prog w 0 spare held fuel 48 cs = some x) : ∃ y, RCpu cs y := by
  obtain ⟨xs, n, _, _, hcl, hxl, hf⟩ := DataW.trod_struct Tryd.underlying48 h
  rw [rcells_cpu] at hcl
  obtain ⟨c0, c1, c2, rfl⟩ := Rd.three hcl
  obtain ⟨y0, e0⟩ := Rd.sm (i := 0) hxl (by decide)
  obtain ⟨y1, e1⟩ := Rd.sm (i := 1) hxl (by decide)
  obtain ⟨y2, e2⟩ := Rd.sm (i := 2) hxl (by decide)
  have h0 := Rd.fld hf (i := 0) rfl rfl rfl rcells_int e0
  have h1 := Rd.fld hf (i := 1) rfl rfl rfl rcells_int e1
  have h2 := Rd.fld hf (i := 2) rfl rfl rfl rcells_int e2
  obtain ⟨k0, hk0, _, hw0⟩ := DataW.trod_int Tryd.underlying3 h0
  obtain ⟨k1, hk1, _, hw1⟩ := DataW.trod_int Tryd.underlying3 h1
  obtain ⟨k2, hk2, _, hw2⟩ := DataW.trod_int Tryd.underlying3 h2
  simp at hk0 hk1 hk2
  subst hk0 hk1 hk2
  exact ⟨⟨k0, k1, k2⟩, rfl, i64_bounds hw0, i64_bounds hw1, i64_bounds hw2⟩
theorem cpus_of {fuel : Nat} {a0 : Option Addr} {len0 cap0 : Nat} {x : DataW H × List MemPlace} (h : DataW.trod enc Tryd.prog w 0 spare held fuel 42 [.slice a0 len0 cap0] = some x) : ∃ l : List Cpu, RS w (· < w.heap.size) 3 RCpu [.slice a0 len0 cap0] l := by
  obtain ⟨l, hl⟩ := rslice_of Tryd.underlying42 rcells_cpu (by omega) cpu_of h
  exact ⟨l, RS.of hl⟩
end
end Go.Proofs.YticmfflnenoplabDoor
namespace Go.Proofs.YticmfflnenoplabDoor
open Go.RowKit Go.WideShapes

section
variable {H : Type} {enc : TypeId × Value → H} {w : World} {base b0 : Nat} {sp : Nat → Bool} {held : Bool} {r : Reach} {d : DataW H} {ps : List MemPlace} {v : Value}
theorem open_num {P : Program} {t : TypeId} {k : IntKind} (ht : P.underlying t = some (.int k)) (hval : Value.okWide P w r b0 t v) (hd : DataW.Trod enc P w base sp held t v d ps) : ∃ n, v = .int k n ∧ (Lit.int k n).wf = true := by
  obtain ⟨n, rfl⟩ := okWide_int ht hval
  obtain ⟨fuel, hf⟩ := hd
  obtain ⟨m, hm, _, hw⟩ := DataW.trod_int ht hf
  simp [Value.cells] at hm
  subst hm
  exact ⟨n, rfl, hw⟩
theorem open_str {P : Program} {t : TypeId} (ht : P.underlying t = some .string) (hval : Value.okWide P w r b0 t v) (hd : DataW.Trod enc P w base sp held t v d ps) : ∃ s, v = .string s ∧ s.size ≤ maxLen := by
  obtain ⟨s, rfl⟩ := okWide_string ht hval
  obtain ⟨fuel, hf⟩ := hd
  obtain ⟨m, hm, _, hw⟩ := DataW.trod_string ht hf
  simp [Value.cells] at hm
  subst hm
  exact ⟨s, rfl, hw⟩
theorem okWide_array {P : Program} {t e : TypeId} {n : Nat} (ht : P.underlying t = some (.array n e)) (h : Value.okWide P w r b0 t v) : ∃ cs, v = .agg cs ∧ cs.size = P.cellsOf t := by
  simp only [Value.okWide, ht] at h
  obtain ⟨cs, h1, h2, _⟩ := h
  exact ⟨cs, h1, h2⟩
end
end Go.Proofs.YticmfflnenoplabDoor
