/- ostleryref.Merge: its walk where the wishes are merged. -/
import Derived.Test.YticmfflnenoplaaMergeI
namespace Go.Proofs.Yticmfflnenoplaa
open Go.RowKit Mk

theorem soAt_full (ls : List (List Hint)) (n : Nat) (hn : n < 256) (hz : n ≠ 0) (k : Nat) (hk : k = ls.length) : bestR (soAt ls n k) ⟨n, false⟩ = mergeP ls ⟨n, true⟩ ⟨n, false⟩ := by
  subst hk; exact both_ways ls n hn hz
theorem soAt_nx (ls : List (List Hint)) (n k : Nat) (x : List Hint) (h : ls[k]? = some x) : soAt ls n (k + 1) = stepR (soAt ls n k) x := by
  obtain ⟨hk, rfl⟩ := List.getElem?_eq_some_iff.1 h
  exact soAt_next ls n k hk
theorem outR_le (P : List Hint) (k : Nat) (h : k ≤ 256) : (outR P k).length ≤ 512 := Nat.le_trans (outR_len P k) (by omega)

/-- The world in the middle of the scan. -/
structure MS (w wr : World) (P : List Hint) (p : Nat) (sv : Value) (xs : List Hint) : Prop where
  below : Below w.heap.size w wr
  lt : w.heap.size < p
  b6 : Blk wr w.heap.size 90 #[.int .u8 0, .bool false]
  own : wr.ownsRow (w.heap.size + 1) 90 2 sv xs.length (flatH xs)
  good : Blk wr p 184 (bArr (has P true))
  bad : Blk wr (p + 1) 184 (bArr (has P false))
theorem MS.app {w wr w' : World} {P : List Hint} {p : Nat} {sv : Value} {xs : List Hint} (h : MS w wr P p sv xs) (x : Hint) {t : TypeId} {o : Array Value} {g cap : Nat} (hown : w'.ownsRow (w.heap.size + 1) 90 2 (.slice (some ⟨g, 0, none⟩) (xs.length + 1) cap) (xs.length + 1) (flatH xs ++ [.int .u8 x.mask, .bool x.good]))
    (hg : (wr.alloc (.cells o t)).grownBy w' sv.ownBlock) : MS w w' P p (.slice (some ⟨g, 0, none⟩) (xs.length + 1) cap) (xs ++ [x]) := by
  have hne := fun (b : Nat) (T : TypeId) (arr : Array Value) (hb : Blk wr b T arr) (hT : 90 ≠ T) => (fun he => own_blk_ne h.own hb hT he.symm : some b ≠ sv.ownBlock)
  have hsz := h.below.size
  have h6 : some w.heap.size ≠ sv.ownBlock := fun he => by have := (h.own.lt _ he.symm).1; omega
  refine ⟨(h.below.alloc hsz _).grown hg (by simp; omega) (fun k hk => by have := (h.own.lt k hk).1; omega), h.lt, Blk.grown (h.b6.alloc _) hg h6, ?_, Blk.grown (h.good.alloc _) hg (hne _ _ _ h.good (by decide)), Blk.grown (h.bad.alloc _) hg (hne _ _ _ h.bad (by decide))⟩
  rw [flatH_app]
  simpa using hown

section
attribute [local irreducible] mergeP listP MergeP soAt outR prs bArr bestR bestAt has flatH better Hid
set_option maxRecDepth 100000 in
set_option maxHeartbeats 8000000 in
theorem rMerge_rest (policy : Int) (n : Nat) (l : List Wi) (A : Option Addr) (c : Nat) (S : Nat → Prop) (w : World) (hS : ∀ b, S b → b < w.heap.size) (hR : RS w S 2 (RWish w S) [.slice A l.length c] l) (hl16 : ∀ x, x ∈ l → x.hints.length ≤ 16)
    (h : ¬ (policy < 0 ∨ 3 < policy ∨ n = 0 ∨ 16 ≤ n)) (hl : ¬ 4 < l.length) (hp : policy ≠ 0) :
    Calls Try.prog 57 #[.int .i64 policy, .int .u8 n, .slice A l.length c] w (RetRef (MergeP policy n l) w) := by
  rw [top_rest _ _ _ h hl hp]
  have h1 : 0 ≤ policy := by omega
  have h2 : policy ≤ 3 := by omega
  have h3 : 1 ≤ n := by omega
  have h4 : n < 16 := by omega
  have h5 : (policy == 0) = false := by rw [beq_eq_false_iff_ne]; exact hp
  have h6 : l.length ≤ 4 := by omega
  clear h hl hp
  obtain ⟨A', c', e1, hc1, hc2, hA⟩ := hR.form
  simp only [List.cons.injEq, Value.slice.injEq, and_true, true_and] at e1
  obtain ⟨rfl, rfl⟩ := e1
  unfold maxLen at hc2
  have HA := Lib.hid hA
  have HR := Lib.hid hR
  have HS := Lib.hid hS
  have HL := Lib.hid hl16
  have hlen : (l.map fun x => listP x policy n).length = l.length := by simp
  have hat := fun k (hk : k < l.length) => (show (l.map fun x => listP x policy n)[k]? = some (listP l[k] policy n) by simp [hk])
  generalize (l.map fun x => listP x policy n) = ls at *
  have hful := fun k hk => soAt_full ls n (by omega) (by omega) k hk
  generalize mergeP ls ⟨n, true⟩ ⟨n, false⟩ = br at *
  have HFUL := Lib.hid hful
  have HAT := Lib.hid hat
  have hslt := fun k hk => soAt_lt ls n (by omega) k hk
  have hsln := fun k hk => soAt_len ls n k hk
  have hsnx := fun k x hk => soAt_nx ls n k x hk
  have HSLT := Lib.hid hslt
  have HSLN := Lib.hid hsln
  have HSNX := Lib.hid hsnx
  have HLEN := Lib.hid hlen
  have hs0 := Lib.hid (soAt_zero ls n)
  clear hA hR hS hl16 hful hat hslt hsln hsnx hlen
  go_enter Try.func57, Try.ntmps57
  go_upto_region 9 with fail
  go_loopw [9, 10] (fun s i wr => ∃ k : Nat, i = .int .i64 k ∧ k ≤ l.length ∧ Below w.heap.size w wr ∧ Blk wr w.heap.size 90 #[.int .u8 0, .bool false] ∧ wr.ownsRow (w.heap.size + 1) 90 2 s (soAt ls n k).length (flatH (soAt ls n k))) (fun _ i _ => l.length - (intOf i).toNat)
  case atStart =>
    refine ⟨0, rfl, by omega, ((Below.refl _ _).alloc (Nat.le_refl _) _).alloc (by simp) _, (Blk.new _ _ _).alloc _, ?_⟩
    rw [hs0.out]
    have := World.ownsRow_lit (base := w.heap.size + 1) (e := 90) (size := 2) (w.alloc (.cells #[.int .u8 0, .bool false] 90)) #[.int .u8 n, .bool true] 1 (by simp) (by simp [maxLen]) (by simp)
    simpa [flatH, Hint.cells] using this
  case round =>
    obtain ⟨k, rfl, hk, hbel, k6, hown⟩ := hrel
    by_cases hlt : k < l.length
    · obtain ⟨b, off, rfl, hb⟩ := HA.out k hlt
      obtain ⟨_, cs', e1, e2, hv, e3, e4⟩ := HR.out.at_ hlt
      obtain ⟨Ah, ch, e5, g1, g2, g3⟩ := e4.form
      obtain rfl : hv = _ := by simpa using e5
      have r0 := (hbel.cell (p := ⟨b, off + k * 2 + 0, none⟩) (HS.out b hb)).trans (e2 0 _ (by rw [e3]; rfl))
      have r1 := (hbel.cell (p := ⟨b, off + k * 2 + 1, none⟩) (HS.out b hb)).trans (e2 1 _ (by rw [e3]; rfl))
      rw [Nat.add_zero] at r0
      have hx16 := HL.out l[k] (List.getElem_mem _)
      have hRx : RS wr S 2 RHint [.slice Ah l[k].hints.length ch] l[k].hints := RS.move e4 (fun q hq => hbel.block q (HS.out q hq)) (fun _ h => h) fun _ _ _ h => h
      have hnx := HSNX.out k _ (HAT.out k hlt)
      have HNX := Lib.hid hnx
      have hso1 := HSLT.out k (by rw [HLEN.out]; omega)
      have hso2 := HSLN.out k (by rw [HLEN.out]; omega)
      clear hnx
      generalize soAt ls n k = so at *
      generalize l[k] = x at *
      have hla := choices_any x hx16 policy (by omega) n (by omega) Ah x.hints.length ch S wr (fun q hq => Nat.lt_of_lt_of_le (HS.out q hq) hbel.size) hRx
      have HLA := Lib.hid hla
      have HSO := Lib.hid hso1
      clear hla hRx e1 e2 e3 e4 e5 g3 hso1 hx16
      generalize listP x policy n = ll at *
      go_wp2_with fail
      refine HLA.out.mono ?_
      rintro e w2 ⟨v, rfl, hvr, hb2⟩
      have hvlt := Lib.hid (hints_lt hvr)
      obtain ⟨Av, cv, ev, gv1, gv2, gv3⟩ := hvr.form
      obtain rfl : v = _ := by simpa using ev
      unfold maxLen at gv2
      have hbel2 := hbel.trans (hb2.mono hbel.size)
      have hown2 := own_below hown hb2
      have k62 := k6.below hb2 k6.lt
      have hrl : RS w2 (fun b => b < w2.heap.size) 2 RHint [.slice Av ll.length cv] ll := RS.move hvr (fun _ _ => rfl) (fun _ h => h.2) fun _ _ _ h => h
      have hsz2 := hbel2.size
      have h62 := k62.lt
      obtain ⟨A9, c9, hs9, h91, h92, hs93⟩ := own_form hown2
      subst hs9
      have GV3 := Lib.hid gv3
      have HS93 := Lib.hid hs93
      clear ev hvr r0 r1 hb2 hbel hown k6 gv3 HLA hs93
      unfold maxLen at h92
      go_upto_region 12 with fail
      go_cut [12, 13] (fun s12 s13 wx => ∃ p, s12 = .pointer (some ⟨p, 0, none⟩) ∧ s13 = .pointer (some ⟨p + 1, 0, none⟩) ∧ MI w wx so ll (.slice A9 so.length c9) (.slice Av ll.length cv) p (prs so ll 0 0))
      case first =>
        go_wp2_with fail
        go_meet
        refine ⟨w2.heap.size, rfl, rfl, ?_⟩
        rw [prs_zero]
        have hba : Below w2.heap.size w2 ((w2.alloc (.cells (bArr (has [] true)) 184)).alloc (.cells (bArr (has [] false)) 184)) := ((Below.refl _ _).alloc (Nat.le_refl _) _).alloc (by simp) _
        have : MI w ((w2.alloc (.cells (bArr (has [] true)) 184)).alloc (.cells (bArr (has [] false)) 184)) so ll (.slice A9 so.length c9) (.slice Av ll.length cv) w2.heap.size [] :=
          ⟨hbel2.trans (hba.mono hbel2.size), h62, k62.below hba k62.lt, own_below hown2 hba, RS.move hrl (fun q hq => hba.block q hq) (fun _ h => h) (fun _ _ _ h => h), (Blk.new _ _ _).alloc _, by have := Blk.new (w2.alloc (.cells (bArr (has [] true)) 184)) 184 (bArr (has [] false)); simpa using this⟩
        rw [bArr_nil.1, bArr_nil.2] at this
        exact this
      case rest =>
        obtain ⟨p, rfl, rfl, hM⟩ := hcut
        go_upto_region 14 with fail
        go_loopw [14] (fun s wx => ∃ i : Nat, s = .int .i64 i ∧ i ≤ so.length ∧ MI w wx so ll (.slice A9 so.length c9) (.slice Av ll.length cv) p (prs so ll i 0)) (fun s _ => so.length - (intOf s).toNat)
        case atStart => exact ⟨0, rfl, by omega, hM⟩
        case round =>
          clear hM
          obtain ⟨i, rfl, hi, hM⟩ := hrel
          by_cases hil : i < so.length
          · obtain ⟨gs, rfl, _, _⟩ := HS93.out (by omega)
            go_upto_region 17 with fail
            go_loopw [15] (fun s wx => ∃ j : Nat, s = .int .i64 j ∧ j ≤ ll.length ∧ MI w wx so ll (.slice (some ⟨gs, 0, none⟩) so.length c9) (.slice Av ll.length cv) p (prs so ll i j)) (fun s _ => ll.length - (intOf s).toNat)
            case atStart => exact ⟨0, rfl, by omega, hM⟩
            case round =>
              clear hM
              obtain ⟨j, rfl, hj, hM⟩ := hrel
              by_cases hjl : j < ll.length
              · obtain ⟨bl, ol, rfl, hbl⟩ := GV3.out j hjl
                have fs := flatH_at2 so i hil
                have rs0 := (hM.own.cellAt (i * 2) (by omega)).trans fs.1
                have rs1 := (hM.own.cellAt (i * 2 + 1) (by omega)).trans fs.2
                have gsl := (hM.own.lt gs rfl).2
                obtain ⟨blp, cs', q1, q2, q3⟩ := hM.rl.at_ hjl
                have rl0 := q2 0 _ (by rw [q3.1]; rfl)
                have rl1 := q2 1 _ (by rw [q3.1]; rfl)
                rw [Nat.add_zero] at rl0
                have hpl := hM.good.lt
                have bll : bl < wr.heap.size := by omega
                have ha256 := HSO.out so[i] (List.getElem_mem _)
                have hb256 := q3.2
                have hpn := prs_next so ll i j hil hjl
                clear fs q1 q2 q3
                generalize so[i] = a at *
                generalize ll[j] = d at *
                obtain ⟨am, ag⟩ := a
                obtain ⟨dm, dg⟩ := d
                dsimp only at rs0 rs1 rl0 rl1 ha256 hb256
                have hand := u8_and_nat am dm ha256 hb256
                have hcm : comb ⟨am, ag⟩ ⟨dm, dg⟩ = ⟨am &&& dm, ag && dg⟩ := rfl
                have hmm2 : am &&& dm < 256 := and_lt _ _ ha256
                rw [hcm] at hpn
                generalize am &&& dm = mm at *
                have HPN := Lib.hid hpn
                clear hpn hcm
                have c12 := (hM.good.cell mm).trans (bArr_at _ mm hmm2)
                have c13 := (hM.bad.cell mm).trans (bArr_at _ mm hmm2)
                have d12 := hM.good.frozen mm
                have d13 := hM.bad.frozen mm
                have hMd := hM.later (Below.refl _ _).drew
                have hit := hMd.hit ⟨mm, ag && dg⟩
                rw [← HPN.out] at hit
                dsimp only at hit
                clear hM hMd
                go_upto_region 19 with fail
                have hI : Below wr.heap.size wr wr.drew := (Below.refl _ _).drew
                refine Flo.region 11 [(0, true), (1, true), (2, true), (3, true), (4, true), (5, true), (6, true), (7, true), (8, true), (9, true), (10, true)] (fun v => Below wr.heap.size wr v) (by kernel_rfl) (by kernel_rfl) rfl hI ?_
                simp only [List.drop_succ_cons, List.drop_zero]
                iterate 11 (apply Flo.op rfl (hI := hI); (· intro v hv K hK; obtain ⟨hc, hf⟩ := Flo.bcl hv; go_wp2_with fail; exact hK); (· rfl))
                refine Flo.tail fun K hK => ?_
                cases ag
                · rw [if_neg (by simp)] at hit
                  go_wp2_with fail
                  go_roundw
                  case rel => exact ⟨j + 1, by go_num, by omega, hit⟩
                  case measure => simp [intOf]; omega
                · cases dg
                  · rw [if_neg (by simp)] at hit
                    go_wp2_with fail
                    go_roundw
                    case rel => exact ⟨j + 1, by go_num, by omega, hit⟩
                    case measure => simp [intOf]; omega
                  · rw [if_pos (by simp)] at hit
                    go_wp2_with fail
                    go_roundw
                    case rel => exact ⟨j + 1, by go_num, by omega, hit⟩
                    case measure => simp [intOf]; omega
              · obtain rfl : j = ll.length := by omega
                rw [prs_full so ll i hil] at hM
                go_wp2_with fail
                go_roundw
                case rel => exact ⟨i + 1, by go_num, by omega, hM⟩
                case measure => simp [intOf]; omega
          · obtain rfl : i = so.length := by omega
            have hst : soAt ls n (k + 1) = outR (prs so ll so.length 0) 256 := HNX.out
            generalize prs so ll so.length 0 = P at *
            have HST := Lib.hid hst
            have h0 := Lib.hid (outR_one P)
            have hnxt := Lib.hid (outR_next P)
            have holen := Lib.hid (fun q => outR_le P q)
            clear hst
            have hMS : MS w wr P p (.slice none 0 0) [] := ⟨hM.below, hM.lt, hM.b6, by have := World.ownsRow_nil wr (w.heap.size + 1) 90 2; simpa [flatH] using this, hM.good, hM.bad⟩
            clear hM
            go_upto_region 25 with fail
            go_loopw [9, 17] (fun s9 s wx => ∃ q : Nat, s = .int .i64 q ∧ 1 ≤ q ∧ q ≤ 256 ∧ MS w wx P p s9 (outR P q)) (fun _ s _ => 256 - (intOf s).toNat)
            case atStart => exact ⟨1, rfl, by omega, by omega, by rw [h0.out]; exact hMS⟩
            case round =>
              clear hMS
              obtain ⟨q, rfl, hq1, hq2, hS⟩ := hrel
              by_cases hql : q < 256
              · have hno := hnxt.out q hq1
                have hol := holen.out q hq2
                have HNO := Lib.hid hno
                clear hno
                generalize outR P q = xs at *
                have hcv := u8_conv q hql
                have c12 := (hS.good.cell q).trans (bArr_at _ q hql)
                obtain ⟨A5, c5, hs5, _, _, _⟩ := own_form hS.own
                subst hs5
                go_upto_if 105 with fail
                go_cut [9] (fun s9 wx => ∃ A6 c6 xs2, xs2 = xs ++ (if has P true q then [⟨q, true⟩] else []) ∧ s9 = .slice A6 xs2.length c6 ∧ MS w wx P p (.slice A6 xs2.length c6) xs2)
                case first =>
                  cases hg : has P true q
                  · rw [hg] at c12
                    have HG := Lib.hid hg
                    clear hg
                    go_wp2_with fail
                    go_meet
                    exact ⟨A5, c5, xs, by rw [HG.out]; simp, rfl, hS⟩
                  · rw [hg] at c12
                    have HG := Lib.hid hg
                    have hsz := hS.below.size
                    clear hg
                    go_wp2_with (at_builtin; refine wpList_app _ hintT rfl (.tmp 106) (.tmp 110) rfl (w.heap.size + 1) _ _ _ rfl (by exact hS.own.alloc _) ⟨wr.heap.size, 0, none⟩ 1 1 [.int .u8 q, .bool true] rfl rfl (news_new wr _ _) (by simp [Value.oneCell']) (by omega) (by unfold maxLen; omega) (by omega) (by have := hS.b6.lt; simp; omega) ?_; intro g cap w4 hown4 hg4 hat4 hlt4)
                    go_meet
                    exact ⟨some ⟨g, 0, none⟩, cap, xs ++ [⟨q, true⟩], by rw [HG.out]; rfl, by simp, by have := hS.app ⟨q, true⟩ hown4 hg4; simpa using this⟩
                case rest =>
                  obtain ⟨A6, c6, xs2, hxs, rfl, hS2⟩ := hcut
                  have HXS := Lib.hid hxs
                  have hxl : xs2.length ≤ 513 := by rw [hxs]; simp only [List.length_append]; split <;> simp <;> omega
                  clear hxs hS c12
                  have c13 := (hS2.bad.cell q).trans (bArr_at _ q hql)
                  cases hg : has P false q
                  · rw [hg] at c13
                    have HG := Lib.hid hg
                    clear hg
                    go_wp2_with fail
                    go_roundw
                    case rel => exact ⟨q + 1, by go_num, by omega, by omega, by rw [HNO.out, ← HXS.out, HG.out]; simpa using hS2⟩
                    case measure => simp [intOf]; omega
                  · rw [hg] at c13
                    have HG := Lib.hid hg
                    have hsz := hS2.below.size
                    clear hg
                    go_wp2_with (at_builtin; refine wpList_app _ hintT rfl (.tmp 115) (.tmp 119) rfl (w.heap.size + 1) _ _ _ rfl (by exact hS2.own.alloc _) ⟨wc.heap.size, 0, none⟩ 1 1 [.int .u8 q, .bool false] rfl rfl (news_new wc _ _) (by simp [Value.oneCell']) (by omega) (by unfold maxLen; omega) (by omega) (by have := hS2.b6.lt; simp; omega) ?_; intro g cap w4 hown4 hg4 hat4 hlt4)
                    go_roundw
                    case rel => exact ⟨q + 1, by go_num, by omega, by omega, by rw [HNO.out, ← HXS.out, HG.out]; have := hS2.app ⟨q, false⟩ hown4 hg4; simpa using this⟩
                    case measure => simp [intOf]; omega
              · obtain rfl : q = 256 := by omega
                go_wp2_with fail
                go_roundw
                case rel => exact ⟨k + 1, by go_num, by omega, hS.below, hS.b6, by rw [HST.out]; exact hS.own⟩
                case measure => simp [intOf]; omega
    · obtain rfl : k = l.length := by omega
      have hbr := HFUL.out l.length HLEN.out.symm
      have hso1 := HSLT.out l.length (by rw [HLEN.out]; omega)
      have hso2 := HSLN.out l.length (by rw [HLEN.out]; omega)
      clear HA HR HS HL HFUL HAT HSLT HSLN HSNX HLEN hs0
      generalize soAt ls n l.length = so at *
      obtain ⟨A9, c9, hs9, h91, h92, hs93⟩ := own_form hown
      subst hs9
      have hf := bestAt_full so ⟨n, false⟩
      rw [hbr] at hf
      have HF := Lib.hid hf
      have HS93 := Lib.hid hs93
      have hblt := fun q => bestAt_lt so ⟨n, false⟩ q hso1 (by dsimp only; omega)
      have HBL := Lib.hid hblt
      have HSO := Lib.hid hso1
      have hbn := Lib.hid (bestAt_next so ⟨n, false⟩)
      have hb0 := Lib.hid (bestAt_zero so ⟨n, false⟩)
      clear hbr hf hs93 hblt hso1
      unfold maxLen at h92
      go_upto_region 33 with fail
      have kb := Blk.new wr 90 #[.int .u8 n, .bool false]
      have hwb : Below wr.heap.size wr (wr.alloc (.cells #[.int .u8 n, .bool false] 90)) := (Below.refl _ _).alloc (Nat.le_refl _) _
      have k62 := k6.below hwb k6.lt
      have hown2 := own_below hown hwb
      have hbel2 := hbel.trans (hwb.mono hbel.size)
      have hns : (Value.slice A9 so.length c9).ownBlock ≠ some wr.heap.size := fun he => by have := (hown.lt _ he).2; omega
      have h6l := k6.lt
      clear hown k6 hbel hwb
      generalize wr.alloc (.cells #[.int .u8 n, .bool false] 90) = wq at *
      generalize wr.heap.size = pb at *
      have HNS := Lib.hid hns
      clear hns
      go_loopw [19] (fun s wx => ∃ i : Nat, s = .int .i64 i ∧ i ≤ so.length ∧ Below w.heap.size w wx ∧ Blk wx w.heap.size 90 #[.int .u8 0, .bool false] ∧ Blk wx pb 90 #[.int .u8 (bestAt so ⟨n, false⟩ i).mask, .bool (bestAt so ⟨n, false⟩ i).good] ∧ wx.ownsRow (w.heap.size + 1) 90 2 (.slice A9 so.length c9) so.length (flatH so)) (fun s _ => so.length - (intOf s).toNat)
      case atStart => exact ⟨0, rfl, by omega, hbel2, k62, by rw [hb0.out]; exact kb, hown2⟩
      case round =>
        clear hbel2 k62 kb hown2
        obtain ⟨i, rfl, hi, hbel, k6, kb, hown⟩ := hrel
        by_cases hil : i < so.length
        · obtain ⟨gs, rfl, _, _⟩ := HS93.out (by omega)
          have fs := flatH_at2 so i hil
          have rs0 := (hown.cellAt (i * 2) (by omega)).trans fs.1
          have rs1 := (hown.cellAt (i * 2 + 1) (by omega)).trans fs.2
          have gsl := (hown.lt gs rfl).2
          have ha256 := HSO.out so[i] (List.getElem_mem _)
          have hb256 := HBL.out i
          have hnx := hbn.out i hil
          have gne : gs ≠ pb := fun he => HNS.out (by rw [he]; rfl)
          clear fs
          generalize so[i] = a at *
          generalize bestAt so ⟨n, false⟩ i = d at *
          obtain ⟨am, ag⟩ := a
          obtain ⟨dm, dg⟩ := d
          dsimp only at rs0 rs1 ha256 hb256 kb
          have HNX := Lib.hid hnx
          clear hnx
          have hbt := fun W => rbetter_any ⟨am, ag⟩ ⟨dm, dg⟩ ha256 hb256 W
          unfold Hint.val at hbt
          dsimp only at hbt
          have HBT := Lib.hid hbt
          clear hbt
          have eb := kb.cells
          have lb := kb.lt
          go_upto_region 35 with fail
          have hI : Below wr.heap.size wr wr.drew := (Below.refl _ _).drew
          refine Flo.region 5 [(0, true), (1, true), (2, true), (3, true), (4, true)] (fun v => Below wr.heap.size wr v) (by kernel_rfl) (by kernel_rfl) rfl hI ?_
          simp only [List.drop_succ_cons, List.drop_zero]
          iterate 5 (apply Flo.op rfl (hI := hI); (· intro v hv K hK; obtain ⟨hc, hf⟩ := Flo.bcl hv; go_wp2_with fail; exact hK); (· rfl))
          refine Flo.tail fun K hK => ?_
          go_wp2_with fail
          refine (HBT.out _).mono ?_
          rintro e w3 ⟨rfl, hb3⟩
          have hb4 := hI.trans hb3
          have hbel3 := hbel.trans (hb4.mono hbel.size)
          have k63 := k6.below hb4 k6.lt
          have kb3 := kb.below hb4 kb.lt
          have hown3 := own_below hown hb4
          have rt0 := (hb4.cell (p := ⟨gs, i * 2, none⟩) gsl).trans rs0
          have rt1 := (hb4.cell (p := ⟨gs, i * 2 + 1, none⟩) gsl).trans rs1
          have eb3 := kb3.cells
          have fb3 := kb3.frozens
          clear eb rs0 rs1 hI hb3 hb4 hbel k6 kb hown lb
          cases hbb : better ⟨am, ag⟩ ⟨dm, dg⟩
          · have HBB := Lib.hid hbb
            clear hbb
            go_wp2_with fail
            go_roundw
            case rel =>
              refine ⟨i + 1, by go_num, by omega, hbel3, k63, ?_, hown3⟩
              rw [HNX.out, HBB.out, if_neg (by simp)]
              exact kb3
            case measure => simp [intOf]; omega
          · have HBB := Lib.hid hbb
            clear hbb
            go_wp2_with fail
            go_roundw
            case rel =>
              refine ⟨i + 1, by go_num, by omega, (hbel3.setCell (by simp; omega) _).setCell (by simp; omega) _, (k63.far (by simp; omega) _).far (by simp; omega) _, ?_, ?_⟩
              · rw [HNX.out, HBB.out, if_pos rfl]
                have := (kb3.set_ 0 (.int .u8 am)).set_ 1 (.bool ag)
                simpa using this
              · exact own_kept (S := fun k => k = pb) hown3 (((Kept.refl _ _).set1 _).set1 _) (fun k hk he => HNS.out (by rw [hk, he]))
            case measure => simp [intOf]; omega
        · obtain rfl : i = so.length := by omega
          rw [HF.out] at kb
          obtain ⟨bm, bg⟩ := br
          have eb := kb.cells
          have e6 := k6.cells
          have f6 := k6.frozens
          have hne6 : pb ≠ w.heap.size := by omega
          have e7 := ((k6.set_ 0 (.int .u8 bm)).set_ 1 (.bool bg)).cells
          cases bg
          · by_cases hp1 : policy = 1
            · subst hp1
              go_wp2_with fail
              refine bodyPost_ret (v := .tuple #[.agg #[.int .u8 bm, .bool false], .bool true, .int .i64 0]) (by simp [results, Try.results57, go_sem, e7]) rfl ⟨rfl, ?_⟩
              exact (hbel.setCell (Nat.le_refl _) _).setCell (Nat.le_refl _) _
            · have hpb : (policy == 1) = false := by rw [beq_eq_false_iff_ne]; exact hp1
              go_wp2_with fail
              refine bodyPost_ret (v := .tuple #[.agg #[.int .u8 bm, .bool false], .bool false, .int .i64 0]) (by simp [results, Try.results57, go_sem, e7]) rfl ⟨rfl, ?_⟩
              exact (hbel.setCell (Nat.le_refl _) _).setCell (Nat.le_refl _) _
          · go_wp2_with fail
            refine bodyPost_ret (v := .tuple #[.agg #[.int .u8 bm, .bool true], .bool true, .int .i64 0]) (by simp [results, Try.results57, go_sem, e7]) rfl ⟨rfl, ?_⟩
            exact (hbel.setCell (Nat.le_refl _) _).setCell (Nat.le_refl _) _
end
theorem rMerge_all (policy : Int) (n : Nat) (l : List Wi) (A : Option Addr) (c : Nat) (S : Nat → Prop) (w : World) (hS : ∀ b, S b → b < w.heap.size) (hR : RS w S 2 (RWish w S) [.slice A l.length c] l) (hl16 : ∀ x, x ∈ l → x.hints.length ≤ 16) :
    Calls Try.prog 57 #[.int .i64 policy, .int .u8 n, .slice A l.length c] w (RetRef (MergeP policy n l) w) := by
  by_cases h : policy < 0 ∨ 3 < policy ∨ n = 0 ∨ 16 ≤ n
  · exact rMerge_bound policy n l A l.length c w h
  · by_cases hl : 4 < l.length
    · exact rMerge_many policy n l A c w h hl
    · by_cases hp : policy = 0
      · subst hp
        exact rMerge_any0 n l A c w h hl
      · exact rMerge_rest policy n l A c S w hS hR hl16 h hl hp
end Go.Proofs.Yticmfflnenoplaa
