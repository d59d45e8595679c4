/- TopTopo: its walk. -/
import Derived.Test.YticmfflnenoplabTpA
import Derived.Test.YticmfflnenoplabTopoG
namespace Go.Proofs.Yticmfflnenoplab
open Go.RowKit Tp Pop
def lz : List Cpu := [⟨0, 0, 0⟩]
theorem faultz : Fault lz = 0 := by decide +kernel
theorem allz : wh (fun _ => true) lz lz.length = 1 := by decide +kernel
theorem new_z (w : World) : Calls Try.prog 11 #[.slice (some ⟨w.heap.size, 0, none⟩) 1 1] (w.alloc (.cells #[.int .i64 0, .int .i64 0, .int .i64 0] 41))
    (fun e w' => ∃ p, e = .returned (.tuple #[.pointer (some ⟨p, 0, none⟩), .nilIface]) ∧ p < w'.heap.size ∧ TopoAt w' (· < w'.heap.size) p lz ∧ Below (w.heap.size + 1) (w.alloc (.cells #[.int .i64 0, .int .i64 0, .int .i64 0] 41)) w') := by
  have b0 := Blk.new w 41 #[.int .i64 0, .int .i64 0, .int .i64 0]
  have hrs : RS (w.alloc (.cells #[.int .i64 0, .int .i64 0, .int .i64 0] 41)) (· < w.heap.size + 1) 3 RCpu [.slice (some ⟨w.heap.size, 0, none⟩) 1 1] lz :=
    RS.blk (l := lz) (f := Cpu.cells) (S := (· < w.heap.size + 1)) b0 rfl (by simp [lz, maxLen]) (fun x _ => rfl) (fun x hx => by
      simp [lz] at hx
      subst hx
      exact ⟨rfl, by decide, by decide, by decide⟩) (by show w.heap.size < w.heap.size + 1; omega)
  refine (New_any lz _ (w.heap.size + 1) _ (by simp) hrs).mono ?_
  rintro e w1 ⟨hb1, h1⟩
  rcases h1 with ⟨_, p, rfl, hp, hT⟩ | ⟨hne, _⟩
  · have hpl : p < w1.heap.size := by
      have h := hT
      unfold TopoAt at h
      obtain ⟨_, h, _⟩ := h
      exact h.lt
    exact ⟨p, rfl, hpl, hT, by simpa using hb1⟩
  · exact absurd faultz hne
theorem all_z (p : Nat) (w : World) (hT : TopoAt w (· < w.heap.size) p lz) : Calls Try.prog 12 #[.pointer (some ⟨p, 0, none⟩)] w (RetU 1 w) := by
  have h := All_any lz (by decide) _ p _ (Nat.le_refl _) hT
  rw [allz] at h
  exact h
theorem New_two (l : List Cpu) (v : Value) (B : Nat) (w : World) (hB : B ≤ w.heap.size) (hR : RS w (· < B) 3 RCpu [v] l) : Calls Try.prog 11 #[v] w
    (fun e w' => Below w.heap.size w w' ∧ ((Fault l = 0 ∧ ∃ p, e = .returned (.tuple #[.pointer (some ⟨p, 0, none⟩), .nilIface]) ∧ p < w'.heap.size ∧ TopoAt w' (· < w'.heap.size) p l) ∨ (∃ f, f ≠ 0 ∧ e = .returned (.tuple #[.pointer none, errV f])))) := by
  refine (New_any l v B w hB hR).mono ?_
  rintro e w1 ⟨hb1, h1⟩
  refine ⟨hb1, ?_⟩
  rcases h1 with ⟨hF, p, rfl, hp, hT⟩ | ⟨hne, rfl⟩
  · refine .inl ⟨hF, p, rfl, ?_, hT⟩
    have h := hT
    unfold TopoAt at h
    obtain ⟨_, h, _⟩ := h
    exact h.lt
  · exact .inr ⟨_, hne, rfl⟩
theorem min4 (n : Nat) (h : ¬ n < 4) : min (n + 1) 4 = min n 4 := by omega
section
attribute [local irreducible] Fault wh TopoAt W low nods cnt bit
set_option maxRecDepth 100000 in
set_option maxHeartbeats 3000000 in
theorem topTopo_any (l : List Cpu) (v : Value) (w : World) (hR : RS w (· < w.heap.size) 3 RCpu [v] l) :
    Calls Try.prog 4 #[v] w (RetBB true w) := by
  obtain ⟨A, c, e, hc1, hc2, hA⟩ := hR.form
  obtain rfl : v = _ := by simpa using e
  unfold maxLen at hc2
  have HR := Lib.hid hR
  have HN := Lib.hid (new_z w)
  have hba : Below w.heap.size w (w.alloc (.cells #[.int .i64 0, .int .i64 0, .int .i64 0] 41)) := (Below.refl _ _).alloc (Nat.le_refl _) _
  clear hA hR e
  go_enter Try.func4, Try.ntmps4
  go_wp2_with fail
  refine HN.out.mono ?_
  rintro e w1 ⟨p, rfl, hp, hT, hb1⟩
  have hbel1 := hba.trans (hb1.mono (by omega))
  have HA := Lib.hid (all_z p w1 hT)
  clear hb1 hba HN hT
  go_wp2_with fail
  refine HA.out.mono ?_
  rintro e w2 ⟨rfl, hb2⟩
  have hbel2 := hbel1.trans (hb2.mono hbel1.size)
  clear hb2 hbel1 HA hp
  by_cases h70 : 70 < l.length
  · go_wp2_with fail
    go_ret
    exact ⟨rfl, hbel2⟩
  have HN := Lib.hid (New_two l _ w.heap.size w2 hbel2.size (HR.out.keep hbel2))
  clear HR
  go_wp2_with fail
  refine HN.out.mono ?_
  rintro e w3 ⟨hb3, h3⟩
  have hbel3 := hbel2.trans (hb3.mono hbel2.size)
  clear hb3 hbel2 HN
  rcases h3 with ⟨hF, p, rfl, hp, hT⟩ | ⟨f, hf, rfl⟩
  · have hFi := fine_of l hF
    have hlen := hFi.len
    have HFI := Lib.hid hFi
    have HT := Lib.hid hT
    have h0c := Lib.hid (low_zero Cpu.core l fun c hc => (hFi.core c hc).1)
    have h0s := Lib.hid (low_zero Cpu.socket l fun c hc => (hFi.sock c hc).1)
    have h0n := Lib.hid (low_zero Cpu.node l fun c hc => (hFi.node c hc).1)
    have hlc := fun n => show low Cpu.core l n < 18446744073709551616 by unfold low; exact W_lt _ l hlen.2
    have hls := fun n => show low Cpu.socket l n < 18446744073709551616 by unfold low; exact W_lt _ l hlen.2
    have hln := fun n => show low Cpu.node l n < 18446744073709551616 by unfold low; exact W_lt _ l hlen.2
    have HLC := Lib.hid hlc
    have HLS := Lib.hid hls
    have HLN := Lib.hid hln
    have HWL := Lib.hid (fun f => W_lt f l hlen.2)
    clear hF hFi hT hlc hls hln h70
    go_upto_region 11 with fail
    go_loopw [5, 6, 7, 8] (fun a b d i wi => ∃ n : Nat, i = .int .i64 n ∧ n ≤ 64 ∧ a = .int .u64 (low Cpu.core l n) ∧ b = .int .u64 (low Cpu.socket l n) ∧ d = .int .u64 (low Cpu.node l (min n 4)) ∧ Below w3.heap.size w3 wi) (fun a b d i _ => 64 - (intOf i).toNat)
    case atStart => exact ⟨0, rfl, by omega, by rw [h0c.out]; rfl, by rw [h0s.out]; rfl, by rw [show min 0 4 = 0 from rfl, h0n.out]; rfl, Below.refl _ _⟩
    case round =>
      clear h0c h0s h0n
      obtain ⟨n, rfl, hn, rfl, rfl, rfl, hb⟩ := hrel
      by_cases hlt : n < 64
      · have HC1 := Lib.hid (Core_any (n : Int) l hlen.2 w3.heap.size p wr hb.size hp (HT.out.below hb hp))
        have HS1 := Lib.hid (fun W' (h : Below w3.heap.size w3 W') => Socket_any (n : Int) l hlen.2 w3.heap.size p W' h.size hp (HT.out.below h hp))
        have hcw : wh (fun c => c.core == (n : Int)) l l.length = W (fun c => c.core == (n : Int)) l := by unfold W; rfl
        have hsw : wh (fun c => c.socket == (n : Int)) l l.length = W (fun c => c.socket == (n : Int)) l := by unfold W; rfl
        rw [hcw] at HC1
        rw [hsw] at HS1
        clear hcw hsw
        have hd1 := u64_and_nat _ _ (HLC.out n) (HWL.out (fun c => c.core == (n : Int)))
        rw [low_disj Cpu.core l n] at hd1
        have hd2 := u64_and_nat _ _ (HLS.out n) (HWL.out (fun c => c.socket == (n : Int)))
        rw [low_disj Cpu.socket l n] at hd2
        have ho1 := u64_or_nat _ _ (HLC.out n) (HWL.out (fun c => c.core == (n : Int)))
        rw [low_next Cpu.core l n] at ho1
        have ho2 := u64_or_nat _ _ (HLS.out n) (HWL.out (fun c => c.socket == (n : Int)))
        rw [low_next Cpu.socket l n] at ho2
        have HO1 := Lib.hid ho1
        have HO2 := Lib.hid ho2
        have HCS := Lib.hid (fun k => core_sock l HFI.out n k)
        have hwl := HWL.out (fun c => c.core == (n : Int))
        rw [Int.natCast_zero] at hd1 hd2
        clear ho1 ho2
        generalize W (fun c => c.core == (n : Int)) l = cn at *
        generalize W (fun c => c.socket == (n : Int)) l = sn at *
        go_wp2_with fail
        refine HC1.out.mono ?_
        rintro e w4 ⟨rfl, hb4⟩
        have hbe4 := hb.trans (hb4.mono hb.size)
        clear HC1 hb4
        go_wp2_with fail
        refine (HS1.out _ hbe4).mono ?_
        rintro e w5 ⟨rfl, hb5⟩
        have hbe5 := hbe4.trans (hb5.mono hbe4.size)
        clear HS1 hb5 hbe4 hb
        go_upto_if 70 with fail
        go_cut [7] (fun s wx => s = .int .u64 (low Cpu.node l (min (n + 1) 4)) ∧ Below w3.heap.size w3 wx)
        case first =>
          clear HCS HO1 HO2 hd1 hd2
          by_cases h4 : n < 4
          · have HON := Lib.hid (On_any (2 ^ n) (by have := pow16n n (by omega); omega) l hlen.2 w3.heap.size p w5 hbe5.size hp (HT.out.below hbe5 hp) HFI.out.node)
            rw [on_node l HFI.out n] at HON
            have HSH := Lib.hid (shl8 n (by omega))
            have hd3 := u64_and_nat _ _ (HLN.out n) (HWL.out (fun c => c.node == (n : Int)))
            rw [low_disj Cpu.node l n, Int.natCast_zero] at hd3
            have ho3 := u64_or_nat _ _ (HLN.out n) (HWL.out (fun c => c.node == (n : Int)))
            rw [low_next Cpu.node l n] at ho3
            have hnt := node_there l HFI.out n
            have hbt := u8_bitp (nods l l.length) n (Nat.lt_trans (nods_lt l HFI.out.node l.length) (by omega))
            have HNO := Lib.hid (fun W' (h : Below w3.heap.size w3 W') => Nodes_any l w3.heap.size p W' h.size (HT.out.below h hp) HFI.out.node)
            rw [show min n 4 = n by omega]
            have hmn : min (n + 1) 4 = n + 1 := by omega
            have HMN := Lib.hid hmn
            clear hmn
            generalize W (fun c => c.node == (n : Int)) l = nn at *
            generalize nods l l.length = no at *
            rcases hnt with ⟨hb1, hne⟩ | ⟨hb1, rfl⟩
            · rw [hb1, Int.natCast_one] at hbt
              have hnz : ¬ nn = 0 := hne
              have hnz2 : ((nn : Int) == 0) = false := by rw [beq_eq_false_iff_ne]; omega
              have hnz3 : ((nn : Int) != 0) = true := by rw [bne, hnz2]; rfl
              clear hb1 hne
              go_wp2_with fail
              rw [HSH.out]
              refine HON.out.mono ?_
              rintro e w6 ⟨rfl, hb6⟩
              have hbe6 := hbe5.trans (hb6.mono hbe5.size)
              go_wp2_with fail
              refine (HNO.out _ hbe6).mono ?_
              rintro e w7 ⟨rfl, hb7⟩
              have hbe7 := hbe6.trans (hb7.mono hbe6.size)
              go_wp2_with fail
              go_meet
              exact ⟨by rw [HMN.out], hbe7⟩
            · rw [hb1, Int.natCast_zero] at hbt
              rw [Int.natCast_zero] at ho3
              clear hb1
              go_wp2_with fail
              rw [HSH.out]
              refine HON.out.mono ?_
              rintro e w6 ⟨rfl, hb6⟩
              have hbe6 := hbe5.trans (hb6.mono hbe5.size)
              go_wp2_with fail
              refine (HNO.out _ hbe6).mono ?_
              rintro e w7 ⟨rfl, hb7⟩
              have hbe7 := hbe6.trans (hb7.mono hbe6.size)
              go_wp2_with fail
              go_meet
              exact ⟨by rw [HMN.out], hbe7⟩
          · go_wp2_with fail
            go_meet
            exact ⟨by rw [min4 n h4], hbe5⟩
        case rest =>
          obtain ⟨rfl, hbe6⟩ := hcut
          clear hbe5 hd1 hd2
          rw [HO1.out, HO2.out]
          by_cases hz : cn = 0
          · subst hz
            rw [Int.natCast_zero]
            clear hwl HCS
            go_upto_region 25 with fail
            go_loopw [12] (fun i wi => ∃ k : Nat, i = .int .i64 k ∧ k ≤ 64 ∧ Below w3.heap.size w3 wi) (fun i _ => 64 - (intOf i).toNat)
            case atStart => exact ⟨0, rfl, by omega, hbe6⟩
            case round =>
              clear hbe6
              obtain ⟨k, rfl, hk, hb⟩ := hrel
              by_cases hkl : k < 64
              · have HS2 := Lib.hid (Socket_any (k : Int) l hlen.2 w3.heap.size p wr hb.size hp (HT.out.below hb hp))
                have hsw : wh (fun c => c.socket == (k : Int)) l l.length = W (fun c => c.socket == (k : Int)) l := by unfold W; rfl
                rw [hsw] at HS2
                clear hsw
                generalize W (fun c => c.socket == (k : Int)) l = sk at *
                go_wp2_with fail
                refine HS2.out.mono ?_
                rintro e w7 ⟨rfl, hb7⟩
                go_wp2_with fail
                go_roundw
                case rel => exact ⟨k + 1, by go_num, by omega, hb.trans (hb7.mono hb.size)⟩
                case measure => simp [intOf]; omega
              · obtain rfl : k = 64 := by omega
                go_wp2_with fail
                go_roundw
                case rel => exact ⟨n + 1, by go_num, by omega, rfl, rfl, rfl, hb⟩
                case measure => simp [intOf]; omega
          · clear HO1 HO2
            go_upto_region 25 with fail
            go_loopw [12] (fun i wi => ∃ k : Nat, i = .int .i64 k ∧ k ≤ 64 ∧ Below w3.heap.size w3 wi) (fun i _ => 64 - (intOf i).toNat)
            case atStart => exact ⟨0, rfl, by omega, hbe6⟩
            case round =>
              clear hbe6
              obtain ⟨k, rfl, hk, hb⟩ := hrel
              by_cases hkl : k < 64
              · have HS2 := Lib.hid (Socket_any (k : Int) l hlen.2 w3.heap.size p wr hb.size hp (HT.out.below hb hp))
                have hsw : wh (fun c => c.socket == (k : Int)) l l.length = W (fun c => c.socket == (k : Int)) l := by unfold W; rfl
                rw [hsw] at HS2
                clear hsw
                have hcs := HCS.out (k : Int)
                have hand := u64_and_nat _ _ hwl (HWL.out (fun c => c.socket == (k : Int)))
                generalize W (fun c => c.socket == (k : Int)) l = sk at *
                rcases hcs with hcs | hcs
                · rw [hcs, Int.natCast_zero] at hand
                  clear hcs
                  go_wp2_with fail
                  refine HS2.out.mono ?_
                  rintro e w7 ⟨rfl, hb7⟩
                  go_wp2_with fail
                  go_roundw
                  case rel => exact ⟨k + 1, by go_num, by omega, hb.trans (hb7.mono hb.size)⟩
                  case measure => simp [intOf]; omega
                · rw [hcs] at hand
                  clear hcs
                  go_wp2_with fail
                  refine HS2.out.mono ?_
                  rintro e w7 ⟨rfl, hb7⟩
                  go_wp2_with fail
                  go_roundw
                  case rel => exact ⟨k + 1, by go_num, by omega, hb.trans (hb7.mono hb.size)⟩
                  case measure => simp [intOf]; omega
              · obtain rfl : k = 64 := by omega
                go_wp2_with fail
                go_roundw
                case rel => exact ⟨n + 1, by go_num, by omega, rfl, rfl, rfl, hb⟩
                case measure => simp [intOf]; omega
      · obtain rfl : n = 64 := by omega
        have hac := low_all Cpu.core l 64 fun c hc => by have := HFI.out.core c hc; omega
        have has := low_all Cpu.socket l 64 fun c hc => by have := HFI.out.sock c hc; omega
        have han := low_all Cpu.node l 4 fun c hc => by have := HFI.out.node c hc; omega
        have HAL := Lib.hid (fun W' (h : Below w3.heap.size w3 W') => All_any l hlen.2 w3.heap.size p W' h.size (HT.out.below h hp))
        have haw : wh (fun _ => true) l l.length = W (fun _ => true) l := by unfold W; rfl
        rw [haw] at HAL
        have HCT := Lib.hid (fun W' => Count_any (W (fun _ => true) l) (HWL.out _) W')
        rw [cnt_all l 64, show min 64 l.length = l.length by omega] at HCT
        rw [hac, has, show min 64 4 = 4 from rfl, han]
        clear hac has han haw
        generalize W (fun _ => true) l = al at *
        go_wp2_with fail
        refine (HAL.out _ hb).mono ?_
        rintro e w4 ⟨rfl, hb4⟩
        have hbe4 := hb.trans (hb4.mono hb.size)
        go_wp2_with fail
        refine (HAL.out _ hbe4).mono ?_
        rintro e w5 ⟨rfl, hb5⟩
        have hbe5 := hbe4.trans (hb5.mono hbe4.size)
        go_wp2_with fail
        refine (HAL.out _ hbe5).mono ?_
        rintro e w6 ⟨rfl, hb6⟩
        have hbe6 := hbe5.trans (hb6.mono hbe5.size)
        go_wp2_with fail
        refine (HAL.out _ hbe6).mono ?_
        rintro e w7 ⟨rfl, hb7⟩
        have hbe7 := hbe6.trans (hb7.mono hbe6.size)
        go_wp2_with fail
        refine (HCT.out _).mono ?_
        rintro e wq ⟨rfl, rfl⟩
        go_wp2_with fail
        go_ret
        exact ⟨rfl, hbel3.trans (hbe7.mono hbel3.size)⟩
  · rw [errV_pos f hf]
    go_wp2_with fail
    go_ret
    exact ⟨rfl, hbel3⟩
end
end Go.Proofs.Yticmfflnenoplab
