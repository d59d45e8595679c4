/- Texts laid together: PkT, TpA, TpB, TopoH, PkU, PkS, Rd, CpuRd, Open. No statement is proved here. -/
import Derived.OpenShut
import Derived.ChangeArms
import Derived.ProofKit
import Derived.Test.YticmfflnenoplaaDoorQ05
namespace Go.Proofs.YticmfflnenoplaaDoor
open Go.RowKit Go.Deep Pop Bi Tp Pk
theorem rcore_call (k : Int) (l : List Cpu) (hl : l.length ≤ 64) (v : Value) (B : Nat) (V : World) (hR : RS V (· < B) 3 RCpu [v] l) : Calls Tryd.prog 49 #[v, .int .i64 k] V (fun e w' => e = .returned (.int .u64 (coreM l k)) ∧ V = w') := by
  have := RCore_any k l hl v B V hR
  exact this.mono fun _ _ ⟨h1, h2⟩ => ⟨h1, h2⟩
theorem rsock_call (k : Int) (l : List Cpu) (hl : l.length ≤ 64) (v : Value) (B : Nat) (V : World) (hR : RS V (· < B) 3 RCpu [v] l) : Calls Tryd.prog 48 #[v, .int .i64 k] V (fun e w' => e = .returned (.int .u64 (sockM l k)) ∧ V = w') := by
  have := RSocket_any k l hl v B V hR
  exact this.mono fun _ _ ⟨h1, h2⟩ => ⟨h1, h2⟩
theorem rcount_call (x : Nat) (hx : x < 18446744073709551616) (w : World) : Calls Tryd.prog 30 #[.int .u64 x] w (fun e w' => e = .returned (.int .i64 (cnt x 64 : Nat)) ∧ Below w.heap.size w w') := by
  have := RCount_any x hx w
  rw [listF_cnt] at this
  exact this
theorem coreOf_at (l : List Cpu) {n : Nat} (h : n < l.length) : coreOf l (n : Int) = l[n].core := by
  unfold coreOf
  rw [Int.toNat_natCast, List.getD_eq_getElem?_getD, List.getElem?_eq_getElem h]
  rfl
/-- The groups of a round. -/
def grp (l : List Cpu) (k n : Nat) : Nat := if k = 1 then coreM l n else sockM l n
def rnd (l : List Cpu) (h : Hd) : Nat → Hd
  | 0 => h
  | k + 1 => wholeP (grp l k) 64 (rnd l h k)
theorem grp_lt (l : List Cpu) (hl : l.length ≤ 64) (k n : Nat) : grp l k n < 18446744073709551616 := by
  unfold grp
  split
  · exact coreM_lt l hl _
  · exact sockM_lt l hl _
theorem rnd_ok (l : List Cpu) (hl : l.length ≤ 64) {h : Hd} (hh : h.ok) : ∀ k, (rnd l h k).ok ∧ (rnd l h k).left ≤ h.left
  | 0 => ⟨hh, Nat.le_refl _⟩
  | k + 1 => by
    obtain ⟨h1, h2⟩ := rnd_ok l hl hh k
    exact ⟨wholeP_ok (fun n => grp_lt l hl k n) h1 64, Nat.le_trans (wholeP_left 64) h2⟩
theorem rnd_sub (l : List Cpu) (hl : l.length ≤ 64) {h : Hd} (hh : h.ok) : ∀ k i, (rnd l h k).free.testBit i = true → h.free.testBit i = true
  | 0, _, hi => hi
  | k + 1, i, hi => rnd_sub l hl hh k i (wholeP_sub (fun n => grp_lt l hl k n) (rnd_ok l hl hh k).1 64 i hi)
theorem rnd_two (l : List Cpu) (fr lf : Nat) : oneP l fr lf = singleP l (rnd l ⟨fr, 0, lf⟩ 2) := rfl
theorem rnd_next (l : List Cpu) (h : Hd) (k : Nat) : rnd l h (k + 1) = wholeP (grp l k) 64 (rnd l h k) := rfl
theorem fit_and (h : Hd) (s : Nat) : fitB h s = (decide (s ≠ 0) && decide (s &&& h.free = s) && decide (cnt s 64 ≤ h.left)) := rfl
section
attribute [local irreducible] cnt wh kap wholeP singleP dif coreM sockM grp rnd bestP singles row tk fitB
set_option maxRecDepth 100000 in
set_option maxHeartbeats 16000000 in
theorem Rsome_any (l : List Cpu) (hl : l.length ≤ 64) (fr lf : Nat) (hfr : fr < 18446744073709551616) (hlf : lf ≤ 64) (hin : InL l fr) (v : Value) (w : World) (hR : RS w (· < w.heap.size) 3 RCpu [v] l) :
    Calls Tryd.prog 31 #[v, .int .u64 fr, .int .i64 lf] w (fun e w' => e = .returned (.int .u64 (oneP l fr lf).taken) ∧ Below w.heap.size w w') := by
  obtain ⟨A, c, e, hc1, hc2, hA⟩ := hR.form
  obtain rfl : v = _ := by simpa using e
  unfold maxLen at hc2
  have HR := Lib.hid hR
  have HA := Lib.hid hA
  have hok0 : Hd.ok ⟨fr, 0, lf⟩ := ⟨hfr, by show 0 < 18446744073709551616; decide⟩
  have HOK := Lib.hid (fun k => rnd_ok l hl hok0 k)
  have HSUB := Lib.hid (fun k => rnd_sub l hl hok0 k)
  have HGL := Lib.hid (fun k n => grp_lt l hl k n)
  have HST : Hid (rnd l ⟨fr, 0, lf⟩ 0 = ⟨fr, 0, lf⟩) := Lib.hid (by unfold rnd; rfl)
  have HIN := Lib.hid hin
  have HW0 := Lib.hid (fun g (h : Hd) => show wholeP g 0 h = h by unfold wholeP; rfl)
  clear hA hR e hok0 hin
  go_enter Tryd.func31, Tryd.ntmps31
  go_wp2_with fail
  go_loopw [1, 2, 7, 8] (fun a b t i wr => ∃ (k : Nat) (h : Hd), i = .int .i64 k ∧ k ≤ 2 ∧ a = .int .u64 h.free ∧ b = .int .i64 h.left ∧ t = .int .u64 h.taken ∧ Hid (h = rnd l ⟨fr, 0, lf⟩ k) ∧ Below w.heap.size w wr) (fun a b t i _ => 2 - (intOf i).toNat)
  case atStart => exact ⟨0, ⟨fr, 0, lf⟩, rfl, by omega, rfl, rfl, rfl, Lib.hid HST.out.symm, Below.refl _ _⟩
  case round =>
    clear HST
    obtain ⟨k, h, rfl, hk, rfl, rfl, rfl, HH, hb⟩ := hrel
    by_cases hlt : k < 2
    · have hk2d : decide ((k : Int) < 2) = true := decide_eq_true (by omega)
      have HWS : Hid (h = wholeP (grp l k) 0 h) := Lib.hid (HW0.out (grp l k) h).symm
      have hh0 := HOK.out k
      rw [← HH.out] at hh0
      have HOK2 := Lib.hid (fun n => wholeP_ok (fun m => HGL.out k m) hh0.1 n)
      have HLE2 := Lib.hid (fun n => Nat.le_trans (wholeP_left (g := grp l k) (h := h) n) hh0.2)
      clear hh0
      go_wp2_with fail
      obtain ⟨wo, rfl⟩ : ∃ wo : World, wo = wr := ⟨_, rfl⟩
      go_loopw [1, 2, 7, 9] (fun a b t i wr => ∃ (n : Nat) (h2 : Hd), i = .int .i64 n ∧ n ≤ 64 ∧ a = .int .u64 h2.free ∧ b = .int .i64 h2.left ∧ t = .int .u64 h2.taken ∧ Hid (h2 = wholeP (grp l k) n h) ∧ Below w.heap.size w wr) (fun a b t i _ => 64 - (intOf i).toNat)
      case atStart => exact ⟨0, h, rfl, by omega, rfl, rfl, rfl, HWS, hb⟩
      case round =>
        clear HWS hb
        obtain ⟨n, h2, rfl, hn, rfl, rfl, rfl, HH2, hb⟩ := hrel
        by_cases hln : n < 64
        · obtain ⟨h2ok, h2l⟩ := And.intro (HOK2.out n) (HLE2.out n)
          rw [← HH2.out] at h2ok h2l
          have HNX : Hid (wholeP (grp l k) (n + 1) h = if fitB h2 (grp l k n) then tk h2 (grp l k n) else h2) := Lib.hid (by rw [wholeP_next, ← HH2.out])
          have hgl := HGL.out k n
          have hkeep := HR.out.keep hb
          have HSK := Lib.hid (rsock_call (n : Int) l hl _ w.heap.size wr (hkeep))
          have HCK := Lib.hid (rcore_call (n : Int) l hl _ w.heap.size wr (hkeep))
          have HCN := Lib.hid (fun W => rcount_call (grp l k n) hgl W)
          have HG0 : Hid (k = 0 → sockM l (n : Int) = grp l k n) := Lib.hid (fun h => by unfold grp; rw [if_neg (by omega)])
          have HG1 : Hid (k = 1 → coreM l (n : Int) = grp l k n) := Lib.hid (fun h => by unfold grp; rw [if_pos h])
          clear hkeep HH2 HOK2 HLE2
          generalize grp l k n = s at *
          obtain ⟨f2, t2, l2⟩ := h2
          obtain ⟨ok1, ok2⟩ := h2ok
          dsimp only at ok1 ok2 h2l
          have hand := u64_and_nat s f2 hgl ok1
          have hor := u64_or_nat t2 s ok2 hgl
          have hanot := u64_andNot_nat f2 s ok1 hgl
          have hdf : (f2 &&& (18446744073709551615 - s) : Nat) = dif f2 s := by unfold dif; rfl
          rw [hdf] at hanot
          have HFT := Lib.hid (fit_and ⟨f2, t2, l2⟩ s)
          have HTK : Hid (tk ⟨f2, t2, l2⟩ s = ⟨dif f2 s, t2 ||| s, l2 - cnt s 64⟩) := Lib.hid (by unfold tk; rfl)
          clear hdf
          dsimp only at HFT
          generalize hsa : (s &&& f2 : Nat) = sa at *
          generalize (t2 ||| s : Nat) = to2 at *
          generalize dif f2 s = fd at *
          clear hsa
          generalize cnt s 64 = c at *
          by_cases hk1 : k = 1
          case' pos =>
            rw [HG1.out hk1] at HCK
            generalize sockM l (n : Int) = sj at *
            have hk1b : ((k : Int) == 1) = true := by simp; omega
            clear HG0 HG1 hk1
            go_upto_region 11 with (first | (go_at_call 48; refine HSK.out.mono ?_; rintro e w5 ⟨rfl, rfl⟩) | (go_at_call 49; refine HCK.out.mono ?_; rintro e w5 ⟨rfl, rfl⟩))
          case' neg =>
            rw [HG0.out (by omega)] at HSK
            have hk1b : ((k : Int) == 1) = false := by simp; omega
            clear HG0 HG1 hk1
            go_upto_region 11 with (first | (go_at_call 48; refine HSK.out.mono ?_; rintro e w5 ⟨rfl, rfl⟩) | (go_at_call 49; refine HCK.out.mono ?_; rintro e w5 ⟨rfl, rfl⟩))
          all_goals
            clear HSK HCK hk1b
            by_cases hs0 : s = 0
            · have hz : ((s : Int) != 0) = false := by simp; omega
              have HNO : Hid (fitB ⟨f2, t2, l2⟩ s = false) := Lib.hid (by rw [HFT.out]; simp [hs0])
              clear hs0 HFT
              go_wp2_with fail
              go_roundw
              case rel => exact ⟨n + 1, ⟨f2, t2, l2⟩, by go_num, by omega, rfl, rfl, rfl, Lib.hid (by rw [HNX.out, HNO.out]; rfl), hb⟩
              case measure => simp [intOf]; omega
            · have hz : ((s : Int) != 0) = true := by simp; omega
              by_cases hsa : sa = s
              · have hz2 : ((sa : Int) == s) = true := by simp; omega
                go_wp2_with fail
                refine (HCN.out _).mono ?_
                rintro e w5 ⟨rfl, hb5⟩
                have hb5' := hb.trans (hb5.mono hb.size)
                clear hb5 hb
                by_cases hcl : c ≤ l2
                · have HYES : Hid (fitB ⟨f2, t2, l2⟩ s = true) := Lib.hid (by rw [HFT.out]; simp [hs0, hsa, hcl])
                  have hd : decide (c ≤ l2) = true := decide_eq_true hcl
                  obtain ⟨ld, hld⟩ : ∃ ld : Nat, ld = l2 - c := ⟨_, rfl⟩
                  have hldi : (l2 : Int) - c = ld := by omega
                  rw [← hld] at HTK
                  clear hs0 hsa hld HFT
                  go_wp2_with fail
                  refine (HCN.out _).mono ?_
                  rintro e w6 ⟨rfl, hb6⟩
                  have hb6' := hb5'.trans (hb6.mono hb5'.size)
                  clear hb6 hb5'
                  go_wp2_with fail
                  go_roundw
                  case rel => exact ⟨n + 1, ⟨fd, to2, ld⟩, by go_num, by omega, rfl, rfl, rfl, Lib.hid (by rw [HNX.out, HYES.out, HTK.out]; rfl), hb6'⟩
                  case measure => simp [intOf]; omega
                · have HNO : Hid (fitB ⟨f2, t2, l2⟩ s = false) := Lib.hid (by rw [HFT.out]; simp [hcl])
                  have hd : decide (c ≤ l2) = false := decide_eq_false hcl
                  clear hs0 hsa hcl HFT
                  go_wp2_with fail
                  go_roundw
                  case rel => exact ⟨n + 1, ⟨f2, t2, l2⟩, by go_num, by omega, rfl, rfl, rfl, Lib.hid (by rw [HNX.out, HNO.out]; rfl), hb5'⟩
                  case measure => simp [intOf]; omega
              · have hz2 : ((sa : Int) == s) = false := by simp; omega
                have HNO : Hid (fitB ⟨f2, t2, l2⟩ s = false) := Lib.hid (by rw [HFT.out]; simp [hsa])
                clear hs0 hsa HFT
                go_wp2_with fail
                go_roundw
                case rel => exact ⟨n + 1, ⟨f2, t2, l2⟩, by go_num, by omega, rfl, rfl, rfl, Lib.hid (by rw [HNX.out, HNO.out]; rfl), hb⟩
                case measure => simp [intOf]; omega
        · obtain rfl : n = 64 := by omega
          have HN : Hid (h2 = rnd l ⟨fr, 0, lf⟩ (k + 1)) := Lib.hid (by rw [HH2.out, HH.out, rnd_next])
          go_wp2_with fail
          go_roundw
          case rel => exact ⟨k + 1, h2, by go_num, by omega, rfl, rfl, rfl, HN, hb⟩
          case measure => simp [intOf]; omega
    · have hkd : decide ((k : Int) < 2) = false := decide_eq_false (by omega)
      have HK2 : Hid (k = 2) := Lib.hid (by omega)
      rw [HK2.out] at HH
      have hh0 := HOK.out 2
      rw [← HH.out] at hh0
      obtain ⟨hok, hlh⟩ := hh0
      have HONE : Hid (oneP l fr lf = singleP l h) := Lib.hid (by rw [rnd_two, ← HH.out])
      have HINH : Hid (InL l h.free) := Lib.hid (by
        rw [HH.out]
        exact InL.sub HIN.out (HSUB.out 2))
      have HOKH := Lib.hid hok
      have HLTR := Lib.hid (row_lt l h.free)
      have HNONE := Lib.hid (fun k => rest_none l hok.1 k)
      have HNXT := Lib.hid (fun k hk => best_next l hok.1 (k := k) (K := l.length) hk (fun n hn => HINH.out n (by rw [bit_test]; exact hn)))
      have HSP := Lib.hid (fun k hk => singleP_of l h (k := k) hk)
      have HS0 : Hid (singles h ((row l h.free).take 0) = h) := Lib.hid (by rw [List.take_zero]; unfold singles; rfl)
      have HRML : Hid (∀ k, (singles h ((row l h.free).take k)).left = h.left - k ∨ (row l h.free).length < k) := Lib.hid (fun k => by
        by_cases hk : k ≤ (row l h.free).length
        · refine .inl ?_
          rw [singles_left (fun x hx => HLTR.out x (List.mem_of_mem_take hx)), List.length_take]
          omega
        · exact .inr (by omega))
      have HOKS := Lib.hid (fun k => singles_ok (l := (row l h.free).take k) (fun x hx => (HLTR.out x (List.mem_of_mem_take hx)).2) hok)
      have HSN : Hid (∀ k (hk : k < (row l h.free).length), singles h ((row l h.free).take (k + 1)) = tk (singles h ((row l h.free).take k)) (2 ^ ((row l h.free)[k]).toNat)) := Lib.hid (fun k hk => by rw [List.take_succ_eq_append_getElem hk, singles_snoc])
      have HKAP := Lib.hid (fun x => kap_bd l h.free x)
      have HKA : Hid (∀ (i : Nat), kap l h.free i = (cnt (coreM l (coreOf l i) &&& h.free) 64 : Nat)) := Lib.hid (fun i => by unfold kap; rfl)
      have HLEFT : Hid (h.left ≤ 64) := Lib.hid (by omega)
      obtain ⟨hf, ht, hlft⟩ := h
      dsimp only at *
      clear HH HIN HW0 HGL HOK HSUB HK2
      go_wp2_with fail
      obtain ⟨wo, rfl⟩ : ∃ wo : World, wo = wr := ⟨_, rfl⟩
      go_loopw [1, 2, 7] (fun a b t wr => ∃ (k : Nat) (h2 : Hd), a = .int .u64 h2.free ∧ b = .int .i64 h2.left ∧ t = .int .u64 h2.taken ∧ k ≤ (row l hf).length ∧ k ≤ hlft ∧ Hid (h2 = singles ⟨hf, ht, hlft⟩ ((row l hf).take k)) ∧ Below w.heap.size w wr) (fun a b t _ => (intOf b).toNat)
      case atStart => exact ⟨0, ⟨hf, ht, hlft⟩, rfl, rfl, rfl, by omega, by omega, Lib.hid HS0.out.symm, hb⟩
      case round =>
        clear HS0 hb
        obtain ⟨k, h2, rfl, rfl, rfl, hkr, hkl, HH2, hb⟩ := hrel
        have hleft := (HRML.out k).resolve_right (by omega)
        rw [← HH2.out] at hleft
        have hok2 := HOKS.out k
        rw [← HH2.out] at hok2
        have hnone := HNONE.out k
        rw [← HH2.out] at hnone
        obtain ⟨f2, t2, l2⟩ := h2
        obtain ⟨ok1, ok2⟩ := hok2
        dsimp only at hleft ok1 ok2 hnone
        have q1 : l2 ≤ hlft - k := by omega
        have q2 : hlft - k ≤ l2 := by omega
        clear hleft
        by_cases hlp : 0 < l2
        · by_cases hfz : f2 = 0
          · have hz : ((f2 : Int) != 0) = false := by simp; omega
            have HD : Hid ((⟨f2, t2, l2⟩ : Hd) = singleP l ⟨hf, ht, hlft⟩) := Lib.hid (by rw [HH2.out]; exact HSP.out k (by have := hnone.1 hfz; omega))
            clear hnone hfz
            go_wp2_with fail
            go_ret
            exact ⟨by rw [HONE.out, ← HD.out]; rfl, hb⟩
          · have hz : ((f2 : Int) != 0) = true := by simp; omega
            have hkr2 : k < (row l hf).length := by
              rcases Nat.lt_or_ge k (row l hf).length with h | h
              · exact h
              · exact absurd (hnone.2 h) hfz
            have hbest := HNXT.out k hkr2
            rw [← HH2.out] at hbest
            dsimp only at hbest
            obtain ⟨x, hx⟩ : ∃ x : Nat, ((row l hf)[k] : Int) = x := ⟨((row l hf)[k]).toNat, by have := (HLTR.out _ (List.getElem_mem hkr2)).1; omega⟩
            have hx64 := (HLTR.out _ (List.getElem_mem hkr2)).2
            rw [hx] at hbest hx64
            rw [Int.toNat_natCast] at hx64
            have HBEST := Lib.hid hbest
            have HSTEP : Hid (singles ⟨hf, ht, hlft⟩ ((row l hf).take (k + 1)) = ⟨dif f2 (2 ^ x), t2 ||| 2 ^ x, l2 - 1⟩) := Lib.hid (by
              rw [HSN.out k hkr2, ← HH2.out, hx, Int.toNat_natCast]
              unfold tk
              rw [pow_cnt hx64])
            have HB0 : Hid (bestP (kap l hf) f2 0 = -1) := Lib.hid (by unfold bestP; rfl)
            have hpw := pow_lt hx64
            have hsh := shl64s x hx64
            have hor := u64_or_nat t2 (2 ^ x) ok2 hpw
            have hanot := u64_andNot_nat f2 (2 ^ x) ok1 hpw
            have hdf : (f2 &&& (18446744073709551615 - 2 ^ x) : Nat) = dif f2 (2 ^ x) := by unfold dif; rfl
            rw [hdf] at hanot
            have hhf := HOKH.out.1
            dsimp only at hhf
            clear hdf hbest hx hnone hfz HSN HNXT HSP HNONE HRML HOKS HH2 HONE
            generalize dif f2 (2 ^ x) = fd at *
            generalize (t2 ||| 2 ^ x : Nat) = td at *
            generalize (2 : Nat) ^ x = px at *
            go_wp2_with fail
            obtain ⟨wq, rfl⟩ : ∃ wq : World, wq = wr := ⟨_, rfl⟩
            go_loopw [12, 13] (fun y i wr => ∃ n : Nat, i = .int .i64 n ∧ n ≤ l.length ∧ y = .int .i64 (bestP (kap l hf) f2 n) ∧ Below w.heap.size w wr) (fun y i _ => l.length - (intOf i).toNat)
            case atStart => exact ⟨0, rfl, by omega, by rw [HB0.out], hb⟩
            case round =>
              clear HB0 hb
              obtain ⟨n, rfl, hn, rfl, hb⟩ := hrel
              by_cases hln : n < l.length
              · have hbt := u64_bitp f2 n ok1
                have hn64 : (n : Int) < 64 := by omega
                cases hi : inS f2 n
                · have HN := Lib.hid (bestP_no (κ := kap l hf) hi)
                  rw [inS_no.1 hi] at hbt
                  clear hi hor hanot hsh HBEST HSTEP
                  go_wp2_with fail
                  go_roundw
                  case rel => exact ⟨n + 1, by go_num, by omega, by rw [HN.out], hb⟩
                  case measure => simp [intOf]; omega
                · rw [inS_iff.1 hi] at hbt
                  have HY := Lib.hid (fun hh => bestP_yes (κ := kap l hf) hi hh)
                  have HO := Lib.hid (fun hh => bestP_old (κ := kap l hf) hi hh)
                  have hsp := bestP_spec (kap l hf) f2 n
                  clear hi hor hanot hsh HBEST HSTEP
                  go_wp2_with fail
                  rcases hsp with ⟨hb0, _⟩ | ⟨bi, hbn, hb0, _, _⟩
                  · have HYY := Lib.hid (HY.out (.inl (by rw [hb0]; decide)))
                    rw [hb0]
                    clear HY HO hb0
                    go_quiet (fail)
                    go_wp2_with fail
                    go_roundw
                    case rel => exact ⟨n + 1, by go_num, by omega, by rw [HYY.out], below_drewN hb _⟩
                    case measure => simp [intOf]; omega
                  · obtain ⟨b, off, rfl, hbB⟩ := HA.out n hln
                    have hkeep := HR.out.keep hb
                    obtain ⟨_, cs', a1, a2, a3, a4⟩ := hkeep.at_ hln
                    obtain ⟨_, cs2, d1, d2, d3, d4⟩ := hkeep.at_ (show bi < l.length by omega)
                    have r0 := a2 0 _ (by rw [a3]; rfl)
                    have s0 := d2 0 _ (by rw [d3]; rfl)
                    rw [Nat.add_zero] at r0 s0
                    have HKN : Hid (kap l hf n = (cnt (coreM l (l[n].core) &&& hf) 64 : Nat)) := Lib.hid (by rw [HKA.out n, coreOf_at l hln])
                    have HKB : Hid (kap l hf bi = (cnt (coreM l ((l[bi]'(by omega)).core) &&& hf) 64 : Nat)) := Lib.hid (by rw [HKA.out bi, coreOf_at l (by omega)])
                    have e1 := coreM_lt l hl (l[n].core)
                    have e2 := coreM_lt l hl ((l[bi]'(by omega)).core)
                    have hand1 := u64_and_nat (coreM l (l[n].core)) hf e1 hhf
                    have hand2 := u64_and_nat (coreM l ((l[bi]'(by omega)).core)) hf e2 hhf
                    have HC1 := Lib.hid (fun W (hW : Below w.heap.size w W) => rcore_call (l[n].core) l hl _ w.heap.size W (HR.out.keep hW))
                    have HC2 := Lib.hid (fun W (hW : Below w.heap.size w W) => rcore_call ((l[bi]'(by omega)).core) l hl _ w.heap.size W (HR.out.keep hW))
                    have HN1 := Lib.hid (fun W => rcount_call (coreM l (l[n].core) &&& hf) (Nat.lt_of_le_of_lt Nat.and_le_left e1) W)
                    have HN2 := Lib.hid (fun W => rcount_call (coreM l ((l[bi]'(by omega)).core) &&& hf) (Nat.lt_of_le_of_lt Nat.and_le_left e2) W)
                    have HBL := Lib.hid (show b < w.heap.size from hbB)
                    clear a1 a2 a3 a4 d1 d2 d3 d4 e1 e2 hkeep
                    generalize (l[bi]'(by omega)).core = cb at *
                    generalize l[n].core = cn at *
                    generalize (coreM l cn &&& hf : Nat) = mn at *
                    generalize (coreM l cb &&& hf : Nat) = mb at *
                    generalize coreM l cn = kn at *
                    generalize coreM l cb = kb at *
                    rw [hb0] at HY HO
                    rw [HKN.out, HKB.out] at HY HO
                    rw [hb0]
                    have hbneg : decide ((bi : Int) < 0) = false := by simp
                    have hbl : (bi : Int) < l.length := by omega
                    have hb64 := hb.size
                    have hbb : b < wr.heap.size := Nat.lt_of_lt_of_le HBL.out hb64
                    clear hb0 HKN HKB
                    generalize cnt mn 64 = c1 at *
                    generalize cnt mb 64 = c2 at *
                    have hI : Below wr.heap.size wr wr.drew := (Below.refl _ _).drew
                    refine Flo.region 25 [(0, true), (1, true), (2, true), (3, true), (4, true), (5, true), (6, true), (7, true), (8, true), (10, true), (13, true), (14, true), (15, true), (16, true), (17, true), (18, true), (20, true), (9, false), (11, true), (12, false), (19, false), (21, true), (22, false), (23, true), (24, true)] (fun v => Below wr.heap.size wr v) (by kernel_rfl) (by kernel_rfl) rfl hI ?_
                    simp only [List.drop_succ_cons, List.drop_zero]
                    iterate 17 (apply Flo.op rfl (hI := hI); (· intro v hv K hK; obtain ⟨hc, hf⟩ := Flo.bcl hv; go_wp2_with fail; all_goals first | exact Flo.noUndef (by with_reducible assumption) | exact hK); (· rfl))
                    refine Flo.seq rfl fun K hK => ?_
                    go_wp2_with fail
                    refine (HC1.out _ (hb.trans (hI.mono hb64))).mono ?_
                    rintro e w5 ⟨rfl, rfl⟩
                    go_wp2_with fail
                    refine hK _ _ hI ?_
                    clear hK
                    iterate 1 (apply Flo.op rfl (hI := hI); (· intro v hv K hK; obtain ⟨hc, hf⟩ := Flo.bcl hv; go_wp2_with fail; all_goals first | exact Flo.noUndef (by with_reducible assumption) | exact hK); (· rfl))
                    refine Flo.seq rfl fun K hK => ?_
                    go_wp2_with fail
                    refine (HN1.out _).mono ?_
                    rintro e w5 ⟨rfl, hb5⟩
                    have hI5 : Below wr.heap.size wr w5 := hI.trans (hb5.mono hI.size)
                    go_wp2_with fail
                    refine hK _ _ hI5 ?_
                    clear hK hb5 hI
                    refine Flo.seq rfl fun K hK => ?_
                    go_wp2_with fail
                    refine (HC2.out _ (hb.trans (hI5.mono hb64))).mono ?_
                    rintro e w6 ⟨rfl, rfl⟩
                    go_wp2_with fail
                    refine hK _ _ hI5 ?_
                    clear hK
                    iterate 1 (apply Flo.op rfl (hI := hI5); (· intro v hv K hK; obtain ⟨hc, hf⟩ := Flo.bcl hv; go_wp2_with fail; all_goals first | exact Flo.noUndef (by with_reducible assumption) | exact hK); (· rfl))
                    refine Flo.seq rfl fun K hK => ?_
                    go_wp2_with fail
                    refine (HN2.out _).mono ?_
                    rintro e w6 ⟨rfl, hb6⟩
                    have hI6 : Below wr.heap.size wr w6 := hI5.trans (hb6.mono hI5.size)
                    go_wp2_with fail
                    refine hK _ _ hI6 ?_
                    clear hK hb6 hI5
                    by_cases hcmp : c1 < c2
                    · have hd : decide (c1 < c2) = true := decide_eq_true hcmp
                      have HYY := Lib.hid (HY.out (.inr (by omega)))
                      clear hcmp
                      iterate 2 (apply Flo.op rfl (hI := hI6); (· intro v hv K hK; obtain ⟨hc, hf⟩ := Flo.bcl hv; go_wp2_with fail; all_goals first | exact Flo.noUndef (by with_reducible assumption) | exact hK); (· rfl))
                      refine Flo.tail fun K hK => ?_
                      go_wp2_with fail
                      go_roundw
                      case rel => exact ⟨n + 1, by go_num, by omega, by rw [HYY.out], hb.trans (hI6.mono hb64)⟩
                      case measure => simp [intOf]; omega
                    · have hd : decide (c1 < c2) = false := decide_eq_false hcmp
                      have HOO := Lib.hid (HO.out (by omega))
                      clear hcmp
                      iterate 2 (apply Flo.op rfl (hI := hI6); (· intro v hv K hK; obtain ⟨hc, hf⟩ := Flo.bcl hv; go_wp2_with fail; all_goals first | exact Flo.noUndef (by with_reducible assumption) | exact hK); (· rfl))
                      refine Flo.tail fun K hK => ?_
                      go_wp2_with fail
                      go_roundw
                      case rel => exact ⟨n + 1, by go_num, by omega, by rw [HOO.out], hb.trans (hI6.mono hb64)⟩
                      case measure => simp [intOf]; omega
              · obtain rfl : n = l.length := by omega
                rw [HBEST.out]
                have hl1 : (l2 : Int) - 1 = ((l2 - 1 : Nat) : Int) := by omega
                obtain ⟨l3, hl3⟩ : ∃ l3, l3 = l2 - 1 := ⟨_, rfl⟩
                rw [← hl3] at hl1 HSTEP
                clear hl3
                go_wp2_with fail
                go_roundw
                case rel => exact ⟨k + 1, ⟨fd, td, l3⟩, rfl, rfl, rfl, by omega, by omega, Lib.hid HSTEP.out.symm, hb⟩
                case measure => simp [intOf]; omega
        · have HD : Hid ((⟨f2, t2, l2⟩ : Hd) = singleP l ⟨hf, ht, hlft⟩) := Lib.hid (by rw [HH2.out]; exact HSP.out k (by omega))
          clear hnone
          go_wp2_with fail
          go_ret
          exact ⟨by rw [HONE.out, ← HD.out]; rfl, hb⟩
end
end Go.Proofs.YticmfflnenoplaaDoor
namespace Go.Proofs.YticmfflnenoplaaDoor
open Go.RowKit Tp Pop
namespace Tp
def W (f : Cpu → Bool) (l : List Cpu) : Nat := wh f l l.length
theorem W_bit (f : Cpu → Bool) (l : List Cpu) (i : Nat) : (W f l).testBit i = (l[i]?).any f := by
  unfold W
  rw [wh_bit]
  by_cases h : i < l.length
  · simp [h]
  · simp [h]
theorem W_lt (f : Cpu → Bool) (l : List Cpu) (hl : l.length ≤ 64) : W f l < 18446744073709551616 := wh_lt64 f l l.length hl
theorem W_and (f g : Cpu → Bool) (l : List Cpu) : W f l &&& W g l = W (fun c => f c && g c) l := by
  refine Nat.eq_of_testBit_eq fun i => ?_
  rw [Nat.testBit_and, W_bit, W_bit, W_bit]
  cases l[i]? <;> rfl
theorem W_or (f g : Cpu → Bool) (l : List Cpu) : W f l ||| W g l = W (fun c => f c || g c) l := by
  refine Nat.eq_of_testBit_eq fun i => ?_
  rw [Nat.testBit_or, W_bit, W_bit, W_bit]
  cases l[i]? <;> rfl
theorem W_congr (f g : Cpu → Bool) (l : List Cpu) (h : ∀ c, c ∈ l → f c = g c) : W f l = W g l := by
  refine Nat.eq_of_testBit_eq fun i => ?_
  rw [W_bit, W_bit]
  cases hi : l[i]? with
  | none => rfl
  | some c => exact h c (List.mem_of_getElem? hi)
theorem W_none (f : Cpu → Bool) (l : List Cpu) (h : ∀ c, c ∈ l → f c = false) : W f l = 0 := by
  refine Nat.eq_of_testBit_eq fun i => ?_
  rw [W_bit, Nat.zero_testBit]
  cases hi : l[i]? with
  | none => rfl
  | some c => exact h c (List.mem_of_getElem? hi)
theorem W_some (f : Cpu → Bool) (l : List Cpu) (c : Cpu) (hc : c ∈ l) (h : f c = true) : W f l ≠ 0 := by
  intro h0
  obtain ⟨i, hi, rfl⟩ := List.mem_iff_getElem.1 hc
  have := W_bit f l i
  rw [h0, Nat.zero_testBit, List.getElem?_eq_getElem hi] at this
  simp [h] at this
structure Fine (l : List Cpu) : Prop where
  len : 1 ≤ l.length ∧ l.length ≤ 64
  core : ∀ c, c ∈ l → 0 ≤ c.core ∧ c.core ≤ 63
  sock : ∀ c, c ∈ l → 0 ≤ c.socket ∧ c.socket ≤ 63
  node : ∀ c, c ∈ l → 0 ≤ c.node ∧ c.node ≤ 3
  one : ∀ c d, c ∈ l → d ∈ l → c.core = d.core → c = d
theorem fine_of (l : List Cpu) (h : Fault l = 0) : Fine l := by
  unfold Fault at h
  split at h
  · omega
  rename_i hl
  have key := fun i hi => fault_ok l l.length h i hi hi
  have hb : ∀ c, c ∈ l → badB c = false := by
    intro c hc
    obtain ⟨i, hi, rfl⟩ := List.mem_iff_getElem.1 hc
    exact (key i hi).1
  refine ⟨by omega, ?_, ?_, ?_, ?_⟩
  · intro c hc
    have := hb c hc
    simp only [badB, Bool.or_eq_false_iff, decide_eq_false_iff_not] at this
    omega
  · intro c hc
    have := hb c hc
    simp only [badB, Bool.or_eq_false_iff, decide_eq_false_iff_not] at this
    omega
  · intro c hc
    have := hb c hc
    simp only [badB, Bool.or_eq_false_iff, decide_eq_false_iff_not] at this
    omega
  · have lt : ∀ i j (hi : i < l.length) (hj : j < l.length), i < j → l[i].core = l[j].core → l[i] = l[j] := by
      intro i j hi hj hij he
      by_cases hne : l[i] = l[j]
      · exact hne
      · have h1 := (clash_iff l j l[j]).2 ⟨i, hi, hij, he, hne⟩
        rw [(key j hj).2] at h1
        cases h1
    intro c d hc hd he
    obtain ⟨i, hi, rfl⟩ := List.mem_iff_getElem.1 hc
    obtain ⟨j, hj, rfl⟩ := List.mem_iff_getElem.1 hd
    rcases Nat.lt_trichotomy i j with hij | hij | hij
    · exact lt i j hi hj hij he
    · subst hij; rfl
    · exact (lt j i hj hi hij he.symm).symm
/-- Those whose part's number is below n. -/
def low (g : Cpu → Int) (l : List Cpu) (n : Nat) : Nat := W (fun c => decide (g c < (n : Int))) l
theorem low_zero (g : Cpu → Int) (l : List Cpu) (h : ∀ c, c ∈ l → 0 ≤ g c) : low g l 0 = 0 :=
  W_none _ l fun c hc => by have := h c hc; simp; omega
theorem low_disj (g : Cpu → Int) (l : List Cpu) (n : Nat) : low g l n &&& W (fun c => g c == (n : Int)) l = 0 := by
  unfold low
  rw [W_and]
  refine W_none _ l fun c _ => ?_
  by_cases h : g c < (n : Int)
  · have : (g c == (n : Int)) = false := by rw [beq_eq_false_iff_ne]; omega
    simp [this]
  · simp [h]
theorem low_next (g : Cpu → Int) (l : List Cpu) (n : Nat) : low g l n ||| W (fun c => g c == (n : Int)) l = low g l (n + 1) := by
  unfold low
  rw [W_or]
  refine W_congr _ _ l fun c _ => ?_
  rw [Bool.eq_iff_iff]
  simp only [Bool.or_eq_true, decide_eq_true_eq, beq_iff_eq]
  omega
theorem low_all (g : Cpu → Int) (l : List Cpu) (n : Nat) (h : ∀ c, c ∈ l → g c < (n : Int)) : low g l n = W (fun _ => true) l :=
  W_congr _ _ l fun c hc => by have := h c hc; simpa using this
/-- A core lies in a socket, or has nothing in common with it. -/
theorem core_sock (l : List Cpu) (h : Fine l) (n k : Int) : W (fun c => c.core == n) l &&& W (fun c => c.socket == k) l = 0 ∨ W (fun c => c.core == n) l &&& W (fun c => c.socket == k) l = W (fun c => c.core == n) l := by
  rw [W_and]
  by_cases hex : ∃ c, c ∈ l ∧ c.core = n ∧ c.socket = k
  · obtain ⟨c, hc, h1, h2⟩ := hex
    right
    refine W_congr _ _ l fun d hd => ?_
    by_cases hd1 : d.core = n
    · have := h.one c d hc hd (by rw [h1, hd1])
      subst this
      simp [h1, h2]
    · have : (d.core == n) = false := beq_eq_false_iff_ne.2 hd1
      simp [this]
  · left
    refine W_none _ l fun d hd => ?_
    by_cases hd1 : d.core = n
    · have : (d.socket == k) = false := beq_eq_false_iff_ne.2 fun h2 => hex ⟨d, hd, hd1, h2⟩
      simp [this]
    · have : (d.core == n) = false := beq_eq_false_iff_ne.2 hd1
      simp [this]
theorem nods_bit (l : List Cpu) (k q : Nat) : (nods l k).testBit q = decide (∃ i, i < k ∧ ∃ h : i < l.length, l[i].node.toNat = q) := by
  induction k with
  | zero => simp [nods]
  | succ k ih =>
    simp only [nods]
    rw [Nat.testBit_or, ih, Bool.eq_iff_iff]
    simp only [Bool.or_eq_true, decide_eq_true_eq]
    by_cases hk : k < l.length
    · rw [List.getElem?_eq_getElem hk]
      simp only [Nat.testBit_two_pow, decide_eq_true_eq]
      constructor
      · rintro (⟨i, h1, h2, h3⟩ | h)
        · exact ⟨i, by omega, h2, h3⟩
        · exact ⟨k, by omega, hk, h⟩
      · rintro ⟨i, h1, h2, h3⟩
        by_cases he : i = k
        · subst he; exact .inr h3
        · exact .inl ⟨i, by omega, h2, h3⟩
    · rw [List.getElem?_eq_none (Nat.le_of_not_lt hk)]
      simp only [Nat.zero_testBit, Bool.false_eq_true, or_false]
      constructor
      · rintro ⟨i, h1, h2, h3⟩
        exact ⟨i, by omega, h2, h3⟩
      · rintro ⟨i, h1, h2, h3⟩
        exact ⟨i, by omega, h2, h3⟩
/-- There is one on a node just if the node is there. -/
theorem node_there (l : List Cpu) (h : Fine l) (n : Nat) : (bit (nods l l.length) n = 1 ∧ W (fun c => c.node == (n : Int)) l ≠ 0) ∨ (bit (nods l l.length) n = 0 ∧ W (fun c => c.node == (n : Int)) l = 0) := by
  rw [bit_of, nods_bit]
  by_cases hex : ∃ i, i < l.length ∧ ∃ h : i < l.length, l[i].node.toNat = n
  · left
    rw [decide_eq_true hex]
    obtain ⟨i, _, hi, he⟩ := hex
    have := h.node _ (List.getElem_mem hi)
    exact ⟨rfl, W_some _ l _ (List.getElem_mem hi) (by simp; omega)⟩
  · right
    rw [decide_eq_false hex]
    refine ⟨rfl, W_none _ l fun c hc => ?_⟩
    obtain ⟨i, hi, rfl⟩ := List.mem_iff_getElem.1 hc
    have := h.node _ hc
    rw [beq_eq_false_iff_ne]
    intro he
    exact hex ⟨i, hi, hi, by omega⟩
theorem cnt_all (l : List Cpu) (k : Nat) : cnt (W (fun _ => true) l) k = min k l.length := by
  induction k with
  | zero => simp [cnt]
  | succ k ih =>
    simp only [cnt]
    rw [ih, bit_of, W_bit]
    by_cases h : k < l.length
    · simp [List.getElem?_eq_getElem h]; omega
    · simp [List.getElem?_eq_none (Nat.le_of_not_lt h)]; omega
theorem on_node (l : List Cpu) (h : Fine l) (n : Nat) : wh (fun c => onB (2 ^ n) c) l l.length = W (fun c => c.node == (n : Int)) l :=
  wh_congr _ _ l (fun c hc => onB_pow n c (h.node c hc).1) l.length
end Tp
end Go.Proofs.YticmfflnenoplaaDoor
namespace Go.Proofs.YticmfflnenoplaaDoor
open Go.RowKit Tp Pop
def lz : List Cpu := [⟨0, 0, 0⟩]
theorem faultz : Fault lz = 0 := by decide +kernel
theorem allz : wh (fun _ => true) lz lz.length = 1 := by decide +kernel
theorem new_z (w : World) : Calls Tryd.prog 11 #[.slice (some ⟨w.heap.size, 0, none⟩) 1 1] (w.alloc (.cells #[.int .i64 0, .int .i64 0, .int .i64 0] 56))
    (fun e w' => ∃ p, e = .returned (.tuple #[.pointer (some ⟨p, 0, none⟩), .nilIface]) ∧ p < w'.heap.size ∧ TopoAt w' (· < w'.heap.size) p lz ∧ Below (w.heap.size + 1) (w.alloc (.cells #[.int .i64 0, .int .i64 0, .int .i64 0] 56)) w') := by
  have b0 := Blk.new w 56 #[.int .i64 0, .int .i64 0, .int .i64 0]
  have hrs : RS (w.alloc (.cells #[.int .i64 0, .int .i64 0, .int .i64 0] 56)) (· < w.heap.size + 1) 3 RCpu [.slice (some ⟨w.heap.size, 0, none⟩) 1 1] lz :=
    RS.blk (l := lz) (f := Cpu.cells) (S := (· < w.heap.size + 1)) b0 rfl (by simp [lz, maxLen]) (fun x _ => rfl) (fun x hx => by
      simp [lz] at hx
      subst hx
      exact ⟨rfl, by decide, by decide, by decide⟩) (by show w.heap.size < w.heap.size + 1; omega)
  refine (New_any lz _ (w.heap.size + 1) _ (by simp) hrs).mono ?_
  rintro e w1 ⟨hb1, h1⟩
  rcases h1 with ⟨_, p, rfl, hp, hT⟩ | ⟨hne, _⟩
  · have hpl : p < w1.heap.size := by
      have h := hT
      unfold TopoAt at h
      obtain ⟨_, h, _⟩ := h
      exact h.lt
    exact ⟨p, rfl, hpl, hT, by simpa using hb1⟩
  · exact absurd faultz hne
theorem all_z (p : Nat) (w : World) (hT : TopoAt w (· < w.heap.size) p lz) : Calls Tryd.prog 25 #[.pointer (some ⟨p, 0, none⟩)] w (RetU 1 w) := by
  have h := All_any lz (by decide) _ p _ (Nat.le_refl _) hT
  rw [allz] at h
  exact h
theorem New_two (l : List Cpu) (v : Value) (B : Nat) (w : World) (hB : B ≤ w.heap.size) (hR : RS w (· < B) 3 RCpu [v] l) : Calls Tryd.prog 11 #[v] w
    (fun e w' => Below w.heap.size w w' ∧ ((Fault l = 0 ∧ ∃ p, e = .returned (.tuple #[.pointer (some ⟨p, 0, none⟩), .nilIface]) ∧ p < w'.heap.size ∧ TopoAt w' (· < w'.heap.size) p l) ∨ (∃ f, f ≠ 0 ∧ e = .returned (.tuple #[.pointer none, errV f])))) := by
  refine (New_any l v B w hB hR).mono ?_
  rintro e w1 ⟨hb1, h1⟩
  refine ⟨hb1, ?_⟩
  rcases h1 with ⟨hF, p, rfl, hp, hT⟩ | ⟨hne, rfl⟩
  · refine .inl ⟨hF, p, rfl, ?_, hT⟩
    have h := hT
    unfold TopoAt at h
    obtain ⟨_, h, _⟩ := h
    exact h.lt
  · exact .inr ⟨_, hne, rfl⟩
theorem min4 (n : Nat) (h : ¬ n < 4) : min (n + 1) 4 = min n 4 := by omega
section
attribute [local irreducible] Fault wh TopoAt W low nods cnt bit
end
end Go.Proofs.YticmfflnenoplaaDoor
namespace Go.Proofs.YticmfflnenoplaaDoor
open Go.RowKit Tp
theorem Fault_len (l : List Cpu) (h : Fault l = 0) : 1 ≤ l.length ∧ l.length ≤ 64 := by
  unfold Fault at h
  split at h
  · omega
  · omega
theorem Fault_pos (l : List Cpu) : 0 ≤ Fault l := by
  unfold Fault
  split
  · omega
  · have := fault_pos l l.length
    omega
theorem Fault_node (l : List Cpu) (h : Fault l = 0) : ∀ c, c ∈ l → 0 ≤ c.node ∧ c.node ≤ 3 := by
  intro c hc
  obtain ⟨i, hi, rfl⟩ := List.mem_iff_getElem.1 hc
  have hl := Fault_len l h
  unfold Fault at h
  rw [if_neg (by omega)] at h
  have := (fault_ok l l.length h i hi hi).1
  simp [badB] at this
  omega
theorem on15 (l : List Cpu) (h : ∀ c, c ∈ l → 0 ≤ c.node ∧ c.node ≤ 3) (k : Nat) : wh (fun c => onB 15 c) l k = wh (fun _ => true) l k := by
  refine wh_congr _ _ l (fun c hc => ?_) k
  obtain ⟨h1, h2⟩ := h c hc
  unfold onB
  rcases (show c.node.toNat = 0 ∨ c.node.toNat = 1 ∨ c.node.toNat = 2 ∨ c.node.toNat = 3 by omega) with h | h | h | h <;> rw [h] <;> rfl
section
attribute [local irreducible] Fault wh TopoAt cntOn nods onB
end
end Go.Proofs.YticmfflnenoplaaDoor
namespace Go.Proofs.YticmfflnenoplaaDoor
open Go.RowKit Go.Deep Pop Bi Tp Pk
def RTakeR (r : Nat × Int) (w : World) (e : Ending) (w' : World) : Prop := e = .returned (.tuple #[.int .u64 r.1, .int .i64 r.2]) ∧ Below w.heap.size w w'
theorem ref_bad {l : List Cpu} {fr : Nat} {many : Int} {on : Nat} (h : many < 0 ∨ 64 < many ∨ insF fr (onM l fun _ => true) = false) : refTake l fr many on = (0, 1) := by rw [refTake, if_pos h]
theorem ref_few {l : List Cpu} {fr : Nat} {many : Int} {on : Nat} (h0 : ¬ (many < 0 ∨ 64 < many ∨ insF fr (onM l fun _ => true) = false)) (h : (cnt fr 64 : Int) < many) : refTake l fr many on = (0, 8) := by rw [refTake, if_neg h0, if_pos h]
theorem ref_yes {l : List Cpu} {fr : Nat} {many : Int} {on : Nat} (h0 : ¬ (many < 0 ∨ 64 < many ∨ insF fr (onM l fun _ => true) = false)) (h : ¬ (cnt fr 64 : Int) < many) : refTake l fr many on = ((oneP l (fr &&& on) many.toNat).taken ||| (oneP l (dif fr (oneP l (fr &&& on) many.toNat).taken) (many.toNat - cnt (oneP l (fr &&& on) many.toNat).taken 64)).taken, 0) := by rw [refTake, if_neg h0, if_neg h]
theorem RS.grow {w w' : World} {v : Value} {l : List Cpu} (h : RS w (· < w.heap.size) 3 RCpu [v] l) (hb : Below w.heap.size w w') : RS w' (· < w'.heap.size) 3 RCpu [v] l :=
  RS.move h (fun b hb' => hb.block b hb') (fun _ hb' => Nat.lt_of_lt_of_le hb' hb.size) (fun _ _ _ h => h)
section
attribute [local irreducible] cnt wh insF refTake onM oneP dif
set_option maxRecDepth 100000 in
set_option maxHeartbeats 8000000 in
theorem RTake_any (fr m : Nat) (many : Int) (hfr : fr < 18446744073709551616) (hm : m < 256) (hmb : -9223372036854775808 ≤ many ∧ many ≤ 9223372036854775807) (l : List Cpu) (hF : Fine l) (v : Value) (w : World) (hR : RS w (· < w.heap.size) 3 RCpu [v] l) :
    Calls Tryd.prog 13 #[v, .int .u64 fr, .int .i64 many, .int .u8 m] w (RTakeR (refTake l fr many (onM l fun c => onB m c)) w) := by
  have hl := hF.len.2
  have HR := Lib.hid hR
  have HAL : Hid (Calls Tryd.prog 29 #[v, .int .u8 15] w (fun e w' => e = .returned (.int .u64 (onM l fun _ => true)) ∧ w = w')) := Lib.hid (by
    have := ROn_any 15 (by decide) l hl v w.heap.size w hR hF.node
    rw [on15 l hF.node] at this
    refine this.mono fun _ _ ⟨h1, h2⟩ => ?_
    unfold onM
    exact ⟨h1, h2⟩)
  have HON : Hid (∀ W, Below w.heap.size w W → Calls Tryd.prog 29 #[v, .int .u8 m] W (fun e w' => e = .returned (.int .u64 (onM l fun c => onB m c)) ∧ W = w')) := Lib.hid (fun W hW => by
    have := ROn_any m hm l hl v W.heap.size W (RS.grow hR hW) hF.node
    refine this.mono fun _ _ ⟨h1, h2⟩ => ?_
    unfold onM
    exact ⟨h1, h2⟩)
  have hal := onM_lt l hl (fun _ => true)
  have hon := onM_lt l hl (fun c => onB m c)
  have HCN := Lib.hid (fun W => rcount_call fr hfr W)
  have HBAD := Lib.hid (fun h => ref_bad (l := l) (fr := fr) (many := many) (on := onM l fun c => onB m c) h)
  have HFEW := Lib.hid (fun h0 h => ref_few (l := l) (fr := fr) (many := many) (on := onM l fun c => onB m c) h0 h)
  have HYES := Lib.hid (fun h0 h => ref_yes (l := l) (fr := fr) (many := many) (on := onM l fun c => onB m c) h0 h)
  have HIL := Lib.hid (fun h => inL_of (l := l) (fr := fr) h)
  have hc64 := Pk.cnt_le64 fr
  have hand := u64_and_nat fr (onM l fun _ => true) hfr hal
  have HINF : Hid (insF fr (onM l fun _ => true) = decide (fr &&& (onM l fun _ => true) = fr)) := Lib.hid (by unfold insF; rfl)
  clear hR
  generalize refTake l fr many (onM l fun c => onB m c) = R at *
  generalize (onM l fun c => onB m c) = on at *
  generalize (onM l fun _ => true) = al at *
  generalize hsa : (fr &&& al : Nat) = sa at *
  clear hsa
  by_cases h1 : many < 0
  · have hr := Lib.hid (HBAD.out (.inl h1))
    go_enter Tryd.func13, Tryd.ntmps13
    go_wp2_with fail
    refine HAL.out.mono ?_
    rintro e w1 ⟨rfl, rfl⟩
    go_wp2_with fail
    go_ret2
    exact ⟨by rw [hr.out]; rfl, Below.refl _ _⟩
  · by_cases h2 : 64 < many
    · have hr := Lib.hid (HBAD.out (.inr (.inl h2)))
      go_enter Tryd.func13, Tryd.ntmps13
      go_wp2_with fail
      refine HAL.out.mono ?_
      rintro e w1 ⟨rfl, rfl⟩
      go_wp2_with fail
      go_ret2
      exact ⟨by rw [hr.out]; rfl, Below.refl _ _⟩
    · by_cases hin : sa = fr
      · have hin2 : insF fr al = true := by rw [HINF.out, hin]; simp
        have h0 : ¬ (many < 0 ∨ 64 < many ∨ insF fr al = false) := by rw [hin2]; simp; omega
        have HFW := Lib.hid (HFEW.out h0)
        have HYS := Lib.hid (HYES.out h0)
        have HIL2 := Lib.hid (HIL.out hin2)
        rw [hin] at hand
        have hz : ((fr : Int) != fr) = false := by simp
        clear hin hin2 h0 HBAD HFEW HYES HIL HINF
        by_cases hfew : (cnt fr 64 : Int) < many
        · have hr := Lib.hid (HFW.out hfew)
          clear HFW HYS
          generalize cnt fr 64 = c at *
          go_enter Tryd.func13, Tryd.ntmps13
          go_wp2_with fail
          refine HAL.out.mono ?_
          rintro e w1 ⟨rfl, rfl⟩
          go_wp2_with fail
          refine (HCN.out w).mono ?_
          rintro e w1 ⟨rfl, hb1⟩
          go_wp2_with fail
          go_ret2
          exact ⟨by rw [hr.out]; rfl, hb1⟩
        · have hr := Lib.hid (HYS.out hfew)
          obtain ⟨n, rfl⟩ : ∃ n : Nat, many = n := ⟨many.toNat, by omega⟩
          rw [Int.toNat_natCast] at hr
          have hfo : fr &&& on < 18446744073709551616 := Nat.lt_of_le_of_lt Nat.and_le_left hfr
          have hand2 := u64_and_nat fr on hfr hon
          have pa := one_part l hl hfo n
          have halt := pa.ok.2
          have hsum := pa.sum
          have hanot := u64_andNot_nat fr (oneP l (fr &&& on) n).taken hfr halt
          have hdf : (fr &&& (18446744073709551615 - (oneP l (fr &&& on) n).taken) : Nat) = dif fr (oneP l (fr &&& on) n).taken := by unfold dif; rfl
          rw [hdf] at hanot
          have hdl := dif_lt (oneP l (fr &&& on) n).taken hfr
          have HSA := Lib.hid (Rsome_any l hl (fr &&& on) n hfo (by omega) (InL.sub HIL2.out (fun i hi => by
            rw [Nat.testBit_and] at hi
            simp only [Bool.and_eq_true] at hi
            exact hi.1)) v)
          have HSB := Lib.hid (Rsome_any l hl (dif fr (oneP l (fr &&& on) n).taken) (n - cnt (oneP l (fr &&& on) n).taken 64) hdl (by omega) (InL.sub HIL2.out (fun i hi => by
            rw [dif_bit hfr halt] at hi
            simp only [Bool.and_eq_true] at hi
            exact hi.1)) v)
          have hblt := (one_part l hl hdl (n - cnt (oneP l (fr &&& on) n).taken 64)).ok.2
          have hor := u64_or_nat (oneP l (fr &&& on) n).taken (oneP l (dif fr (oneP l (fr &&& on) n).taken) (n - cnt (oneP l (fr &&& on) n).taken 64)).taken halt hblt
          have HCA := Lib.hid (fun W => rcount_call (oneP l (fr &&& on) n).taken halt W)
          obtain ⟨q, hq⟩ : ∃ q : Nat, q = n - cnt (oneP l (fr &&& on) n).taken 64 := ⟨_, rfl⟩
          have hqi : (n : Int) - (cnt (oneP l (fr &&& on) n).taken 64 : Nat) = q := by omega
          rw [← hq] at hr HSB hor
          have hrn : (n : Int) ≤ (cnt fr 64 : Nat) := by omega
          clear HFW HYS hfew hq hdf pa hsum HIL2
          generalize (oneP l (dif fr (oneP l (fr &&& on) n).taken) q).taken = b at *
          generalize dif fr (oneP l (fr &&& on) n).taken = fd at *
          generalize (oneP l (fr &&& on) n).taken = a at *
          generalize (fr &&& on : Nat) = fo at *
          generalize cnt a 64 = ca at *
          generalize cnt fr 64 = c at *
          generalize (a ||| b : Nat) = ab at *
          go_enter Tryd.func13, Tryd.ntmps13
          go_wp2_with fail
          refine HAL.out.mono ?_
          rintro e w1 ⟨rfl, rfl⟩
          go_wp2_with fail
          refine (HCN.out w).mono ?_
          rintro e w1 ⟨rfl, hb1⟩
          go_wp2_with fail
          refine (HON.out w1 hb1).mono ?_
          rintro e w2 ⟨rfl, rfl⟩
          go_wp2_with fail
          refine (HSA.out w1 (RS.grow HR.out hb1)).mono ?_
          rintro e w2 ⟨rfl, hb2⟩
          have hb2' := hb1.trans (hb2.mono hb1.size)
          clear hb2 hb1 HSA
          go_wp2_with fail
          refine (HCA.out w2).mono ?_
          rintro e w3 ⟨rfl, hb3⟩
          have hb3' := hb2'.trans (hb3.mono hb2'.size)
          clear hb3 hb2'
          go_wp2_with fail
          refine (HSB.out w3 (RS.grow HR.out hb3')).mono ?_
          rintro e w4 ⟨rfl, hb4⟩
          have hb4' := hb3'.trans (hb4.mono hb3'.size)
          clear hb4 hb3' HSB
          go_wp2_with fail
          go_ret2
          exact ⟨by rw [hr.out]; rfl, hb4'⟩
      · have hin2 : insF fr al = false := by rw [HINF.out]; simp [hin]
        have hr := Lib.hid (HBAD.out (.inr (.inr hin2)))
        have hz : ((sa : Int) != fr) = true := by simp; omega
        clear hin hin2 HINF HBAD HFEW HYES HIL
        go_enter Tryd.func13, Tryd.ntmps13
        go_wp2_with fail
        refine HAL.out.mono ?_
        rintro e w1 ⟨rfl, rfl⟩
        go_wp2_with fail
        go_ret2
        exact ⟨by rw [hr.out]; rfl, Below.refl _ _⟩
end
end Go.Proofs.YticmfflnenoplaaDoor
namespace Go.Proofs.YticmfflnenoplaaDoor
open Go.RowKit Go.Deep Pop Bi Tp Pk
def l4 : List Cpu := [⟨0, 0, 0⟩, ⟨1, 0, 0⟩, ⟨0, 0, 0⟩, ⟨1, 0, 0⟩]
theorem fault4 : Fault l4 = 0 := by decide +kernel
theorem take4 : takeP l4 15 2 (onM l4 fun c => onB 1 c) = (5, 0) := by decide +kernel
theorem fine4 : Fine l4 := fine_of l4 fault4
theorem Fault_nn (l : List Cpu) : 0 ≤ Fault l := Fault_pos l
theorem takeP_err (l : List Cpu) (fr : Nat) (many : Int) (on : Nat) : (takeP l fr many on).2 = 0 ∨ (takeP l fr many on).2 = 1 ∨ (takeP l fr many on).2 = 8 := by
  unfold takeP
  split
  · exact .inr (.inl rfl)
  · split
    · exact .inr (.inr rfl)
    · exact .inl rfl
theorem New_ok (l : List Cpu) (hF : Fault l = 0) (v : Value) (B : Nat) (w : World) (hB : B ≤ w.heap.size) (hR : RS w (· < B) 3 RCpu [v] l) : Calls Tryd.prog 11 #[v] w
    (fun e w' => ∃ p, e = .returned (.tuple #[.pointer (some ⟨p, 0, none⟩), .nilIface]) ∧ p < w'.heap.size ∧ TopoAt w' (· < w'.heap.size) p l ∧ Below w.heap.size w w') := by
  refine (New_any l v B w hB hR).mono ?_
  rintro e w1 ⟨hb1, h1⟩
  rcases h1 with ⟨_, p, rfl, hp, hT⟩ | ⟨hne, _⟩
  · refine ⟨p, rfl, ?_, hT, hb1⟩
    have h := hT
    unfold TopoAt at h
    obtain ⟨_, h, _⟩ := h
    exact h.lt
  · exact absurd hF hne
section
attribute [local irreducible] Fault wh TopoAt takeP onM
set_option maxRecDepth 100000 in
set_option maxHeartbeats 4000000 in
theorem picks_any (w : World) (hTB : TabAt 2 Lib.deBruijn64tab w) (_hg : 2 < w.heap.size) : Calls Tryd.prog 9 #[] w (RetBB true w) := by
  have hba : Below w.heap.size w (w.alloc (.cells #[.int .i64 0, .int .i64 0, .int .i64 0, .int .i64 1, .int .i64 0, .int .i64 0, .int .i64 0, .int .i64 0, .int .i64 0, .int .i64 1, .int .i64 0, .int .i64 0] 56)) := (Below.refl _ _).alloc (Nat.le_refl _) _
  have b0 := Blk.new w 56 #[.int .i64 0, .int .i64 0, .int .i64 0, .int .i64 1, .int .i64 0, .int .i64 0, .int .i64 0, .int .i64 0, .int .i64 0, .int .i64 1, .int .i64 0, .int .i64 0]
  have hrs : RS (w.alloc (.cells #[.int .i64 0, .int .i64 0, .int .i64 0, .int .i64 1, .int .i64 0, .int .i64 0, .int .i64 0, .int .i64 0, .int .i64 0, .int .i64 1, .int .i64 0, .int .i64 0] 56)) (· < w.heap.size + 1) 3 RCpu [.slice (some ⟨w.heap.size, 0, none⟩) 4 4] l4 :=
    RS.blk (l := l4) (f := Cpu.cells) (S := (· < w.heap.size + 1)) b0 rfl (by simp [l4, maxLen]) (fun x _ => rfl) (fun x hx => by
      simp [l4] at hx
      rcases hx with rfl | rfl | rfl | rfl <;> exact ⟨rfl, by decide, by decide, by decide⟩) (by show w.heap.size < w.heap.size + 1; omega)
  have HN := Lib.hid (New_ok l4 fault4 _ (w.heap.size + 1) _ (by simp) hrs)
  have hs := fun W => same_yes 0 (by omega) W
  have HS := Lib.hid hs
  have HTB := Lib.hid hTB
  clear hrs b0 hs hTB
  go_enter Tryd.func9, Tryd.ntmps9
  go_wp2_with fail
  refine HN.out.mono ?_
  rintro e w1 ⟨p, rfl, hp, hT, hb1⟩
  · have hbel := hba.trans (hb1.mono (by simp))
    have hz1 := hbel.size
    have ht := Take_any p w1.heap.size 15 1 2 (by decide) (by decide) l4 (by decide) fine4.node w1 (TabAt.below HTB.out hbel) (by omega) (Nat.le_refl _) hp hT
    rw [take4] at ht
    have HT : Hid (Calls Tryd.prog 12 #[.pointer (some ⟨p, 0, none⟩), .int .u64 15, .int .i64 2, .int .u8 1] w1 (fun e w' => e = .returned (.tuple #[.int .u64 5, .nilIface]) ∧ Below w1.heap.size w1 w')) := Lib.hid ht
    have HS2 : Hid (∀ W, Calls Tryd.prog 6 #[.nilIface, .int .i64 0] W (RetB true W)) := Lib.hid HS.out
    clear hT hb1 HN ht HS
    go_wp2_with fail
    refine HT.out.mono ?_
    rintro e w2 ⟨rfl, hb2⟩
    have hbel2 := hbel.trans (hb2.mono hz1)
    go_wp2_with fail
    refine (HS2.out _).mono ?_
    rintro e w3 ⟨rfl, rfl⟩
    go_wp2_with fail
    go_ret
    exact ⟨rfl, hbel2⟩
set_option maxRecDepth 100000 in
set_option maxHeartbeats 8000000 in
theorem pickSays_any (l : List Cpu) (v : Value) (fr m : Nat) (many : Int) (hfr : fr < 18446744073709551616) (hm : m < 256) (hmb : -9223372036854775808 ≤ many ∧ many ≤ 9223372036854775807) (w : World) (hTB : TabAt 2 Lib.deBruijn64tab w) (_hg : 2 < w.heap.size) (hR : RS w (· < w.heap.size) 3 RCpu [v] l) :
    Calls Tryd.prog 4 #[v, .int .u64 fr, .int .i64 many, .int .u8 m] w (RetBB true w) := by
  obtain ⟨A, c, e, hc1, hc2, hA⟩ := hR.form
  obtain rfl : v = _ := by simpa using e
  unfold maxLen at hc2
  have HR := Lib.hid hR
  have HTB := Lib.hid hTB
  have HP := Lib.hid (picks_any w hTB _hg)
  have hpos := Fault_nn l
  clear hA hR e hTB
  go_enter Tryd.func4, Tryd.ntmps4
  go_wp2_with fail
  refine HP.out.mono ?_
  rintro e w1 ⟨rfl, hb1⟩
  have HTF := Lib.hid (TopoFault_any l _ w.heap.size w1 hb1.size (HR.out.keep hb1))
  clear HP
  go_wp2_with fail
  refine HTF.out.mono ?_
  intro e w2 hP
  have hP2 : FaultPost (Fault l) w1 e w2 := hP
  obtain ⟨rfl, hb2⟩ := hP2
  have hb2' := hb1.trans (hb2.mono hb1.size)
  clear hP hb2 hb1 HTF
  by_cases hF : 0 < Fault l
  · go_wp2_with fail
    go_ret
    exact ⟨rfl, hb2'⟩
  · have hF0 : Hid (Fault l = 0) := Lib.hid (by omega)
    have hFd : decide (0 < Fault l) = false := decide_eq_false hF
    have HN := Lib.hid (New_ok l hF0.out _ w.heap.size w2 hb2'.size (HR.out.keep hb2'))
    clear hF
    go_wp2_with fail
    refine HN.out.mono ?_
    rintro e w3 ⟨p, rfl, hp, hT, hb3⟩
    have hb3' := hb2'.trans (hb3.mono hb2'.size)
    have hz3 := hb3'.size
    have hFi := fine_of l hF0.out
    have HTK := Lib.hid (Take_any p w3.heap.size fr m many hfr hm l hFi.len.2 hFi.node w3 (TabAt.below HTB.out hb3') (by omega) (Nat.le_refl _) hp hT)
    have HRT := Lib.hid (fun W hW => RTake_any fr m many hfr hm hmb l hFi (.slice A l.length c) W hW)
    rw [ref_take l hFi.len.2 hfr] at HRT
    have hnn : 0 ≤ (takeP l fr many (onM l fun c => onB m c)).2 := by
      rcases takeP_err l fr many (onM l fun c => onB m c) with h2 | h2 | h2 <;> rw [h2] <;> decide
    have HS := Lib.hid (fun W => same_yes _ hnn W)
    clear hb3 hb2' HN hT hFi hF0 hnn HTB
    generalize takeP l fr many (onM l fun c => onB m c) = R at *
    obtain ⟨s, f⟩ := R
    go_wp2_with fail
    refine HTK.out.mono ?_
    intro e w4 hP
    have hP2 : TakeR (s, f) w3 e w4 := hP
    obtain ⟨rfl, hb4⟩ := hP2
    have hb4' := hb3'.trans (hb4.mono hz3)
    clear hP hb4 HTK
    dsimp only at *
    go_wp2_with fail
    refine (HRT.out w4 (RS.grow HR.out hb4')).mono ?_
    intro e w5 hP
    have hP2 : RTakeR (s, f) w4 e w5 := hP
    obtain ⟨rfl, hb5⟩ := hP2
    have hb5' := hb4'.trans (hb5.mono hb4'.size)
    clear hP hb5 HRT
    dsimp only
    go_wp2_with fail
    refine (HS.out _).mono ?_
    rintro e w6 ⟨rfl, rfl⟩
    go_wp2_with fail
    go_ret
    exact ⟨rfl, hb5'⟩
end
end Go.Proofs.YticmfflnenoplaaDoor
namespace Go.Proofs.YticmfflnenoplaaDoor.Rd
open Go.RowKit Go.Deep
section
variable {H : Type} {enc : TypeId × Value → H} {w : World} {spare : Nat → Bool} {held : Bool}
theorem two {β : Type} {l : List β} (h : l.length = 2) : ∃ c0 c1, l = [c0, c1] := by
  match l, h with
  | [c0, c1], _ => exact ⟨c0, c1, rfl⟩
theorem three {β : Type} {l : List β} (h : l.length = 3) : ∃ c0 c1 c2, l = [c0, c1, c2] := by
  match l, h with
  | [c0, c1, c2], _ => exact ⟨c0, c1, c2, rfl⟩
theorem sm {β : Type} {xs : List β} {n i : Nat} (h : xs.length = n) (hi : i < n) : ∃ y, xs[i]? = some y := ⟨xs[i], List.getElem?_eq_getElem (by omega)⟩
theorem fld {P : Program} {fs : Array Field} {n i off sz : Nat} {f : Field} {t : TypeId} {cs : List Value} {xs : List (DataW H × List MemPlace)} {y : DataW H × List MemPlace}
    (hf : ∀ (i : Nat) (f : Field), fs[i]? = some f → DataW.trod enc P w 0 spare held n f.type ((cs.drop f.offset).take (P.cellsOf f.type)) = xs[i]?) (hi : fs[i]? = some f) (ht : f.type = t) (ho : f.offset = off) (hs : P.cellsOf t = sz) (e : xs[i]? = some y) :
    DataW.trod enc P w 0 spare held n t ((cs.drop off).take sz) = some y := by
  have := hf i f hi
  rw [ht, ho, hs, e] at this
  exact this
end
end Go.Proofs.YticmfflnenoplaaDoor.Rd
namespace Go.Proofs.YticmfflnenoplaaDoor
open Go.RowKit Go.Deep Tp
section
variable {H : Type} {enc : TypeId × Value → H} {w : World} {spare : Nat → Bool} {held : Bool}
theorem rcells_cpu : Tryd.prog.cellsOf 56 = 3 := by kernel_rfl
theorem rcells_int : Tryd.prog.cellsOf 3 = 1 := by kernel_rfl
theorem cpu_of (fuel : Nat) (cs : List Value) (x : DataW H × List MemPlace) (h : DataW.trod enc Tryd.prog w 0 spare held fuel 56 cs = some x) : ∃ y, RCpu cs y := by
  obtain ⟨xs, n, _, _, hcl, hxl, hf⟩ := DataW.trod_struct Tryd.underlying56 h
  rw [rcells_cpu] at hcl
  obtain ⟨c0, c1, c2, rfl⟩ := Rd.three hcl
  obtain ⟨y0, e0⟩ := Rd.sm (i := 0) hxl (by decide)
  obtain ⟨y1, e1⟩ := Rd.sm (i := 1) hxl (by decide)
  obtain ⟨y2, e2⟩ := Rd.sm (i := 2) hxl (by decide)
  have h0 := Rd.fld hf (i := 0) rfl rfl rfl rcells_int e0
  have h1 := Rd.fld hf (i := 1) rfl rfl rfl rcells_int e1
  have h2 := Rd.fld hf (i := 2) rfl rfl rfl rcells_int e2
  obtain ⟨k0, hk0, _, hw0⟩ := DataW.trod_int Tryd.underlying3 h0
  obtain ⟨k1, hk1, _, hw1⟩ := DataW.trod_int Tryd.underlying3 h1
  obtain ⟨k2, hk2, _, hw2⟩ := DataW.trod_int Tryd.underlying3 h2
  simp at hk0 hk1 hk2
  subst hk0 hk1 hk2
  exact ⟨⟨k0, k1, k2⟩, rfl, i64_bounds hw0, i64_bounds hw1, i64_bounds hw2⟩
theorem cpus_of {fuel : Nat} {a0 : Option Addr} {len0 cap0 : Nat} {x : DataW H × List MemPlace} (h : DataW.trod enc Tryd.prog w 0 spare held fuel 31 [.slice a0 len0 cap0] = some x) : ∃ l : List Cpu, RS w (· < w.heap.size) 3 RCpu [.slice a0 len0 cap0] l := by
  obtain ⟨l, hl⟩ := rslice_of Tryd.underlying31 rcells_cpu (by omega) cpu_of h
  exact ⟨l, RS.of hl⟩
end
end Go.Proofs.YticmfflnenoplaaDoor
namespace Go.Proofs.YticmfflnenoplaaDoor
open Go.RowKit Go.WideShapes

section
variable {H : Type} {enc : TypeId × Value → H} {w : World} {base b0 : Nat} {sp : Nat → Bool} {held : Bool} {r : Reach} {d : DataW H} {ps : List MemPlace} {v : Value}
theorem open_num {P : Program} {t : TypeId} {k : IntKind} (ht : P.underlying t = some (.int k)) (hval : Value.okWide P w r b0 t v) (hd : DataW.Trod enc P w base sp held t v d ps) : ∃ n, v = .int k n ∧ (Lit.int k n).wf = true := by
  obtain ⟨n, rfl⟩ := okWide_int ht hval
  obtain ⟨fuel, hf⟩ := hd
  obtain ⟨m, hm, _, hw⟩ := DataW.trod_int ht hf
  simp [Value.cells] at hm
  subst hm
  exact ⟨n, rfl, hw⟩
theorem open_str {P : Program} {t : TypeId} (ht : P.underlying t = some .string) (hval : Value.okWide P w r b0 t v) (hd : DataW.Trod enc P w base sp held t v d ps) : ∃ s, v = .string s ∧ s.size ≤ maxLen := by
  obtain ⟨s, rfl⟩ := okWide_string ht hval
  obtain ⟨fuel, hf⟩ := hd
  obtain ⟨m, hm, _, hw⟩ := DataW.trod_string ht hf
  simp [Value.cells] at hm
  subst hm
  exact ⟨s, rfl, hw⟩
theorem okWide_array {P : Program} {t e : TypeId} {n : Nat} (ht : P.underlying t = some (.array n e)) (h : Value.okWide P w r b0 t v) : ∃ cs, v = .agg cs ∧ cs.size = P.cellsOf t := by
  simp only [Value.okWide, ht] at h
  obtain ⟨cs, h1, h2, _⟩ := h
  exact ⟨cs, h1, h2⟩
end
end Go.Proofs.YticmfflnenoplaaDoor
