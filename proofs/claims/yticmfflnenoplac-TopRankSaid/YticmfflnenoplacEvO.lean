/- TopRank: its walk. No statement is proved here. -/
import Derived.Test.YticmfflnenoplacEvN
namespace Go.Proofs.Yticmfflnenoplac
open Go.RowKit Go.Deep Da Qo Ev
theorem podT : ElemT Try.prog 22 28 (.agg #[.string ⟨#[]⟩, .int .i64 0, .slice none 0 0]) 3 48 := ⟨Try.underlying22, by kernel_rfl, rfl, by omega⟩
namespace Ev
def HeadOk (l : List Pod) (k : Nat) : Prop := ∀ i (hi : i < l.length), i < k → podFault l[i] = 0 ∧ ∀ j (hj : j < l.length), j < i → sameS l[j].name l[i].name = false
theorem head_apart {us : List Use} {l : List Pod} (hl : Low us) (h : HeadOk l l.length) : Apart us l :=
  ⟨fun p hp => by
    obtain ⟨i, hi, rfl⟩ := List.getElem_of_mem hp
    exact fit_of hl (h i hi hi).1, nodup_of fun i hi j hj hji => (h i hi hi).2 j hj hji⟩
end Ev
def GoodsIn (w : World) (B : Nat) (G : List (List Value × Pod)) : Prop := ∀ x, x ∈ G → x.1.length = 3 ∧ RPod w B x.1 x.2
theorem goods_slice {w0 w : World} {B base : Nat} {hv : Value} {G : List (List Value × Pod)} (hown : w.ownsRow base 28 3 hv G.length (G.flatMap Prod.fst)) (hG : GoodsIn w0 B G) (hb : Below B w0 w) (hB : B ≤ w.heap.size) : RSlice w w.heap.size 3 (RPod w w.heap.size) [hv] (G.map Prod.snd) := by
  have h := RS.own (S := (· < w.heap.size)) (R := fun cs x => cs = x.1 ∧ RPod w w.heap.size x.1 x.2) (f := Prod.fst) hown (fun x hx => (hG x hx).1) (fun x hx => ⟨rfl, ((hG x hx).2.below hb).mono hB⟩) (fun g hg => (hown.lt g hg).2)
  obtain ⟨A, cap, e, h1, h2, h3⟩ := h
  refine ⟨A, cap, by rw [e]; simp, by simpa using h1, h2, ?_⟩
  rcases h3 with h3 | ⟨b, off, hA, hlt, h3⟩
  · exact .inl (by simpa using h3)
  · refine .inr ⟨b, off, hA, hlt, fun i hi => ?_⟩
    obtain ⟨cs', q1, q2, q3, q4⟩ := h3 i (by simpa using hi)
    exact ⟨cs', q1, q2, by rw [q3]; simpa using q4⟩
theorem goods_snoc {w : World} {B : Nat} {G : List (List Value × Pod)} (hG : GoodsIn w B G) {x : List Value × Pod} (h : x.1.length = 3 ∧ RPod w B x.1 x.2) : GoodsIn w B (G ++ [x]) := by
  intro y hy
  rcases List.mem_append.1 hy with hy | hy
  · exact hG y hy
  · obtain rfl : y = x := by simpa using hy
    exact h
theorem goods_nil (w : World) (B : Nat) : GoodsIn w B [] := fun x hx => by cases hx
theorem i64_and1023 (n : Int) : bits .and .i64 n 1023 = n % 1024 := by
  have h127 : (BitVec.ofInt 64 1023).toNat = 2 ^ 10 - 1 := by decide
  have key : (BitVec.ofInt 64 n &&& BitVec.ofInt 64 1023).toNat = (n % ((2 ^ 64 : Nat) : Int)).toNat % 2 ^ 10 := by
    rw [BitVec.toNat_and, BitVec.toNat_ofInt, h127, Nat.and_two_pow_sub_one_eq_mod]
  show IntKind.i64.wrap ((BitVec.ofInt 64 n &&& BitVec.ofInt 64 1023).toNat : Nat) = n % 1024
  rw [key, IntKind.wrap_i64]
  omega
theorem own_dn {w : World} {base : Nat} {e : TypeId} {size n : Nat} {v : Value} {xs : List Value} (h : w.ownsRow base e size v n xs) (k : Nat) : (w.drewN k).ownsRow base e size v n xs := h
theorem rs_up {α : Type} {w : World} {B B' C : Nat} {R : List Value → α → Prop} {cs : List Value} {l : List α} (h : RSlice w B C R cs l) (hB : B ≤ B') : RSlice w B' C R cs l := by
  obtain ⟨A, cap, h1, h2, h3, h4⟩ := h
  refine ⟨A, cap, h1, h2, h3, ?_⟩
  rcases h4 with h4 | ⟨b, off, hA, hb, h4⟩
  · exact .inl h4
  · exact .inr ⟨b, off, hA, by omega, h4⟩
section
attribute [local irreducible] rankL namesV podFault RPod RCont lightPods lightUses usedF rowOf HeadOk restP others GoodsIn
set_option maxRecDepth 100000 in
set_option maxHeartbeats 8000000 in
theorem topRank_any (v v2 : Value) (l : List Pod) (us : List Use) (wo : Int) (w : World) (h : RSlice w w.heap.size 3 (RPod w w.heap.size) [v] l) (h2 : RSlice w w.heap.size 2 RUse [v2] us) :
    Calls Try.prog 3 #[v, v2, .int .i64 wo] w (RetBB true w) := by
  have HLP := Lib.hid (fun W (hW : Below w.heap.size w W) => lightPods_any v l W w.heap.size hW.size ((h.mono fun _ _ h => h.below hW).below hW))
  have HLU := Lib.hid (fun W (hW : Below w.heap.size w W) => lightUses_any v2 us W w.heap.size (h2.below hW))
  obtain ⟨A, cap, hv, hl, hcap, hA⟩ := h.form
  obtain rfl : v = _ := by simpa using hv
  obtain ⟨Au, capu, hvu, hlu0, hcapu, hAu⟩ := h2.form
  obtain rfl : v2 = _ := by simpa using hvu
  unfold maxLen at hcap hcapu
  have HA := Lib.hid hA
  have HR := Lib.hid h
  have HAu := Lib.hid hAu
  have HU := Lib.hid h2
  clear h h2 hv hvu hA hAu
  go_enter Try.func3, Try.ntmps3
  go_wp2_with fail
  have hb0 : Below w.heap.size w (w.alloc (.cells #[.string ⟨#[97]⟩, .int .i64 0, .slice none 0 0] 28)) := (Below.refl _ _).alloc (Nat.le_refl _) _
  have k0 : Blk (w.alloc (.cells #[.string ⟨#[97]⟩, .int .i64 0, .slice none 0 0] 28)) w.heap.size 28 #[.string ⟨#[97]⟩, .int .i64 0, .slice none 0 0] := Blk.new w _ _
  generalize w.alloc (.cells #[.string ⟨#[97]⟩, .int .i64 0, .slice none 0 0] 28) = w1 at *
  have HRE := Lib.hid (Rank_any _ (.slice none 0 0) _ [] w1.heap.size w1 (Nat.le_refl _) (rs_one k0 k0.lt (by decide) (by decide)) (rnil _ _ _ _) (fun p hp => by
    obtain rfl : p = _ := List.mem_singleton.1 hp
    exact fit_bare _ _ 0 (by decide) (by decide) (by unfold usedF; omega)) (by simp))
  clear k0
  refine HRE.out.mono ?_
  intro e w2 hP
  have hP2 : RankP _ _ w1 e w2 := hP
  obtain ⟨A0, c0, rfl, _, hb2⟩ := hP2
  have hbw := hb0.trans (hb2.mono hb0.size)
  clear hP HRE hb0 hb2
  cases hlp : lightPods l
  · rw [hlp] at HLP
    clear hlp
    go_wp2_with fail
    refine (HLP.out _ hbw).mono ?_
    rintro e w3 ⟨rfl, hb3⟩
    go_wp2_with fail
    go_ret
    exact ⟨rfl, hbw.trans (hb3.mono hbw.size)⟩
  rw [hlp] at HLP
  have hl16 : l.length ≤ 16 := by
    unfold lightPods at hlp
    simp only [Bool.and_eq_true, decide_eq_true_eq] at hlp
    exact hlp.1
  clear hlp
  cases hlu : lightUses us
  · rw [hlu] at HLU
    clear hlu
    go_wp2_with fail
    refine (HLP.out _ hbw).mono ?_
    rintro e w3 ⟨rfl, hb3⟩
    have hb3' := hbw.trans (hb3.mono hbw.size)
    go_wp2_with fail
    refine (HLU.out _ hb3').mono ?_
    rintro e w4 ⟨rfl, rfl⟩
    go_wp2_with fail
    go_ret
    exact ⟨rfl, hb3'⟩
  rw [hlu] at HLU
  have hlow := low_of hlu
  have HLow := Lib.hid hlow
  clear hlu hlow
  go_wp2_with fail
  refine (HLP.out _ hbw).mono ?_
  rintro e w3 ⟨rfl, hb3⟩
  have hb3' := hbw.trans (hb3.mono hbw.size)
  clear hbw hb3
  go_wp2_with fail
  refine (HLU.out _ hb3').mono ?_
  rintro e w4 ⟨rfl, rfl⟩
  clear HLP HLU
  by_cases h0 : l.length = 0
  · have hz : ((l.length : Int) == 0) = true := by simp [h0]
    clear h0
    go_wp2_with fail
    go_ret
    exact ⟨rfl, hb3'⟩
  have hz : ((l.length : Int) == 0) = false := beq_eq_false_iff_ne.2 (by omega)
  have hpos : 0 < l.length := by omega
  clear h0
  go_wp2_with fail
  clear hz
  go_loopw [7] (fun i wi => ∃ k : Nat, i = .int .i64 k ∧ k ≤ l.length ∧ Hid (HeadOk l k) ∧ Below w.heap.size w wi) (fun i _ => l.length - (intOf i).toNat)
  case atStart => exact ⟨0, rfl, by omega, Lib.hid (by unfold HeadOk; intro i hi h; omega), hb3'⟩
  case round =>
    clear hb3'
    obtain ⟨k, rfl, hk, HN, hb⟩ := hrel
    by_cases hlt : k < l.length
    · obtain ⟨b, off, rfl⟩ := HA.out k hlt
      obtain ⟨hblt, cs', hc1, hc2, hp0⟩ := (HR.out.below hb).at_ hlt
      have hp := hp0.below hb
      obtain ⟨A8, n8, c8, hcs⟩ := rpod_open hp0
      have g0 := hc2 0 _ (by rw [hcs]; rfl)
      have g1 := hc2 1 _ (by rw [hcs]; rfl)
      have g2 := hc2 2 _ (by rw [hcs]; rfl)
      simp only [Nat.add_zero] at g0
      have HCK := Lib.hid (Check_any l[k] cs' w.heap.size wr hb.size hp)
      rw [hcs] at HCK
      have HST : Hid (podFault l[k] = 0 → (∀ j (hj : j < l.length), j < k → sameS l[j].name l[k].name = false) → HeadOk l (k + 1)) := Lib.hid (by
        intro h1 h2
        have h0 := HN.out
        unfold HeadOk at h0 ⊢
        intro i hi hik
        rcases (show i < k ∨ i = k by omega) with hx | rfl
        · exact h0 i hi hx
        · exact ⟨h1, h2⟩)
      obtain ⟨rn, hrn⟩ : ∃ rn : ByteArray, rn = l[k].name := ⟨_, rfl⟩
      have HRN := Lib.hid hrn
      rw [← hrn] at g0 HCK
      generalize podFault l[k] = pf at *
      generalize l[k].prio = pr at *
      clear hc1 hc2 hcs hp hp0 HN hrn
      by_cases hf : pf = 0
      · have HX := Lib.hid (HST.out hf)
        subst hf
        clear HST
        unfold RetEB at HCK
        rw [errV_0] at HCK
        go_wp2_with fail
        refine HCK.out.mono ?_
        rintro e w5 ⟨rfl, hb5⟩
        have hb5' := hb.trans (hb5.mono hb.size)
        clear hb5 hb g0 g1 g2 HCK
        go_wp2_with fail
        go_loopw [8] (fun i wi => ∃ j : Nat, i = .int .i64 j ∧ j ≤ k ∧ Hid (∀ i (hi : i < l.length), i < j → sameS l[i].name rn = false) ∧ Below w.heap.size w wi) (fun i _ => k - (intOf i).toNat)
        case atStart => exact ⟨0, rfl, by omega, Lib.hid (fun i hi h => by omega), hb5'⟩
        case round =>
          clear hb5'
          obtain ⟨j, rfl, hj, HM, hb⟩ := hrel
          obtain ⟨_, cs1, _, hc12, hp1⟩ := (HR.out.below hb).at_ hlt
          obtain ⟨A8, n8, c8, hcs1⟩ := rpod_open hp1
          have g0 := hc12 0 _ (by rw [hcs1]; rfl)
          simp only [Nat.add_zero] at g0
          rw [← HRN.out] at g0
          clear hc12 hcs1 hp1
          by_cases hjk : j < k
          · have hjl : j < l.length := by omega
            obtain ⟨_, cs2, _, hc22, hp2⟩ := (HR.out.below hb).at_ hjl
            obtain ⟨A9, n9, c9, hcs2⟩ := rpod_open hp2
            have d0 := hc22 0 _ (by rw [hcs2]; rfl)
            simp only [Nat.add_zero] at d0
            have HS : Hid (sameS l[j].name rn = false → ∀ i (hi : i < l.length), i < j + 1 → sameS l[i].name rn = false) := Lib.hid (by
              intro h i hi hij
              rcases (show i < j ∨ i = j by omega) with hx | rfl
              · exact HM.out i hi hx
              · exact h)
            generalize l[j].name = jn at *
            unfold sameS at HS
            clear hc22 hcs2 hp2 HM
            cases hs : (jn.toList == rn.toList)
            · have HS2 := Lib.hid (HS.out hs)
              clear HS
              go_upto_region 13 with fail
              go_quiet (fail)
              go_wp2_with fail
              go_roundw
              case rel => exact ⟨j + 1, by go_num, by omega, HS2, below_drewN3 hb _⟩
              case measure => simp [intOf]; omega
            · clear HS
              go_upto_region 13 with fail
              go_quiet (fail)
              go_wp2_with fail
              go_ret
              exact ⟨rfl, below_drewN3 hb _⟩
          · obtain rfl : j = k := by omega
            have HM2 := Lib.hid (HX.out (fun i hi hij => by rw [← HRN.out]; exact HM.out i hi hij))
            clear HM HX
            go_wp2_with fail
            go_roundw
            case rel => exact ⟨j + 1, by go_num, by omega, HM2, hb⟩
            case measure => simp [intOf]; omega
      · unfold RetEB at HCK
        rw [errV_pos _ hf] at HCK
        clear HST
        go_wp2_with fail
        refine HCK.out.mono ?_
        rintro e w5 ⟨rfl, hb5⟩
        go_wp2_with fail
        go_ret
        exact ⟨rfl, hb.trans (hb5.mono hb.size)⟩
    · obtain rfl : k = l.length := by omega
      have hap := head_apart HLow.out HN.out
      have HAp := Lib.hid hap
      clear HN hap
      obtain ⟨m, hm⟩ : ∃ m : Nat, bits .and .i64 wo 1023 = (m : Int) := ⟨(wo % 1024).toNat, by rw [i64_and1023]; omega⟩
      obtain ⟨k0, hk0⟩ : ∃ k0, k0 = m % l.length := ⟨_, rfl⟩
      have htm : (m : Int).tmod (l.length : Int) = (k0 : Int) := by rw [hk0]; rfl
      have hkl : k0 < l.length := by rw [hk0]; exact Nat.mod_lt _ hpos
      clear hk0
      go_upto_region 17 with fail
      clear hm htm
      go_wp2_with fail
      go_loopw [10, 11] (fun v10 i wi => ∃ (j : Nat) (A0 : Option Addr) (c0 : Nat) (G : List (List Value × Pod)), i = .int .i64 ((l.length : Int) - 1 - j) ∧ j ≤ l.length ∧ v10 = .slice A0 G.length c0 ∧ Hid (G.map Prod.snd = restP l k0 j) ∧ Hid (GoodsIn w w.heap.size G) ∧ Hid (wi.ownsRow w.heap.size 28 3 (.slice A0 G.length c0) G.length (G.flatMap Prod.fst)) ∧ G.length ≤ j ∧ Below w.heap.size w wi) (fun _ i _ => (intOf i + 1).toNat)
      case atStart => exact ⟨0, none, 0, [], by first | rfl | (congr 1; omega), by omega, rfl, Lib.hid (by unfold restP; rfl), Lib.hid (goods_nil _ _), Lib.hid (World.ownsRow_nil _ _ _ _), by simp, hb⟩
      case round =>
        clear hb
        obtain ⟨j, A0, c0, G, rfl, hj, rfl, HG, HGI, HO, hGl, hb⟩ := hrel
        by_cases hjl : j < l.length
        · obtain ⟨ix, hix⟩ : ∃ ix : Nat, ix + 1 + j = l.length := ⟨l.length - 1 - j, by omega⟩
          have e : (l.length : Int) - 1 - j = (ix : Int) := by omega
          rw [e]
          have hixl : ix < l.length := by omega
          have HE := Lib.hid (show (ix : Int) - 1 = (l.length : Int) - 1 - ((j + 1 : Nat) : Int) by omega)
          have HIX := Lib.hid (show l.length - 1 - j = ix by omega)
          clear e
          obtain ⟨b, off, rfl⟩ := HA.out ix hixl
          by_cases hik : ix = k0
          · have HG2 : Hid (restP l k0 (j + 1) = restP l k0 j) := Lib.hid (restP_no (by rw [HIX.out]; exact hik))
            obtain rfl := hik
            clear hix
            go_wp2_with fail
            go_roundw
            case rel => exact ⟨j + 1, A0, c0, G, by rw [HE.out], by omega, rfl, Lib.hid (by rw [HG2.out]; exact HG.out), HGI, HO, by omega, hb⟩
            case measure => simp [intOf]
          · have HG2 : Hid (restP l k0 (j + 1) = restP l k0 j ++ [l[ix]]) := Lib.hid (by
              have h1 := HIX.out
              have := restP_yes (l := l) (k := k0) (j := j) (by rw [h1]; exact hik) (by omega)
              rw [this]
              simp only [h1])
            have hne : ((ix : Int) != k0) = true := by simp; omega
            have hneN : (ix != k0) = true := by simp; omega
            obtain ⟨hblt, cs', hc1, hc2, hp0⟩ := (HR.out.below hb).at_ hixl
            generalize l[ix] = p at *
            obtain ⟨A8, n8, c8, hcs⟩ := rpod_open hp0
            have g0 := hc2 0 _ (by rw [hcs]; rfl)
            have g1 := hc2 1 _ (by rw [hcs]; rfl)
            have g2 := hc2 2 _ (by rw [hcs]; rfl)
            simp only [Nat.add_zero] at g0
            rw [hcs] at hp0
            have HGI2 := Lib.hid (goods_snoc HGI.out (x := ([.string p.name, .int .i64 p.prio, .slice A8 n8 c8], p)) ⟨rfl, hp0⟩)
            have HGF : Hid ((G ++ [([Value.string p.name, .int .i64 p.prio, .slice A8 n8 c8], p)]).flatMap Prod.fst = G.flatMap Prod.fst ++ [.string p.name, .int .i64 p.prio, .slice A8 n8 c8]) := Lib.hid (by simp)
            have HGL : Hid ((G ++ [([Value.string p.name, .int .i64 p.prio, .slice A8 n8 c8], p)]).length = G.length + 1) := Lib.hid (by simp)
            have HGM : Hid ((G ++ [([Value.string p.name, .int .i64 p.prio, .slice A8 n8 c8], p)]).map Prod.snd = restP l k0 (j + 1)) := Lib.hid (by rw [HG2.out, List.map_append, HG.out]; rfl)
            clear hc1 hc2 hcs hp0 hik hix HG2 HG HGI
            go_wp2_with (at_builtin; refine wpList_app _ podT rfl (.tmp 76) (.tmp 81) rfl w.heap.size (.slice A0 G.length c0) G.length (G.flatMap Prod.fst) rfl (by exact HO.out.alloc _) ⟨wr.heap.size, 0, none⟩ 1 1 [.string p.name, .int .i64 p.prio, .slice A8 n8 c8] rfl rfl (news_new wr _ _) (by simp [Value.oneCell']) (by omega) (by unfold maxLen; omega) (by omega) (by have := hb.size; simp; omega) ?_; intro g9 c9 w9 hown9 hgr9 hat9 hlt9)
            rw [← HGF.out] at hown9
            have HO9 := Lib.hid hown9
            have hba := hb.alloc hb.size (.cells #[.string p.name, .int .i64 p.prio, .slice A8 n8 c8] 28)
            have hb9 : Below w.heap.size w w9 := hba.grown hgr9 hba.size (fun q hq => (HO.out.lt q hq).1)
            clear hown9 hgr9 hat9 hba HO HGF g0 g1 g2
            generalize (G ++ [([Value.string p.name, .int .i64 p.prio, .slice A8 n8 c8], p)]) = G2 at *
            have HGL2 := Lib.hid HGL.out.symm
            go_wp2_with fail
            go_roundw
            case rel => exact ⟨j + 1, some ⟨g9, 0, none⟩, c9, G2, by rw [HE.out], by omega, by rw [HGL.out], HGM, HGI2, Lib.hid (by have := HO9.out; rw [HGL2.out] at this; exact this), by have := HGL.out; omega, hb9⟩
            case measure => simp [intOf]
        · obtain rfl : j = l.length := by omega
          have e : (l.length : Int) - 1 - (l.length : Int) = -1 := by omega
          rw [e]
          clear e
          have HRA := Lib.hid (fun W (hW : Below w.heap.size w W) => Rank_any (.slice A l.length cap) (.slice Au us.length capu) l us w.heap.size W hW.size ((HR.out.mono fun _ _ h => h.below hW).below hW) (HU.out.below hW) HAp.out.fit (by omega))
          have HRL := Lib.hid (rankL_len us l)
          have HRR := Lib.hid (rest_rank HAp.out hkl)
          have HFR := Lib.hid (restP_fit HAp.out k0)
          have hrl := restP_len l k0
          have HRLen := Lib.hid (rankL_len us (restP l k0 l.length))
          rw [HRR.out] at HRLen
          clear hlt hk
          go_wp2_with fail
          refine (HRA.out _ hb).mono ?_
          intro e w5 hP
          have hP2 : RankP us l wr e w5 := hP
          obtain ⟨A5, c5, rfl, hown5, hb5⟩ := hP2
          have hb5' := hb.trans (hb5.mono hb.size)
          have HO5 := Lib.hid (ev_base hown5 hb.size)
          have HOG := Lib.hid (own_below HO.out hb5)
          obtain ⟨S, hS⟩ : ∃ S, S = rankL us l := ⟨_, rfl⟩
          rw [← hS] at HO5 HRL HRR HRLen
          have HS := Lib.hid hS
          clear hP hown5 hb5 hb HRA HO hS
          obtain ⟨kn, hkn⟩ : ∃ kn : ByteArray, kn = l[k0].name := ⟨_, rfl⟩
          have HKN := Lib.hid hkn
          rw [← hkn] at HRR HRLen
          clear hkn
          obtain ⟨b, off, rfl⟩ := HA.out k0 hkl
          go_wp2_with fail
          go_loopw [13, 14] (fun v13 i wi => ∃ (j : Nat) (A6 : Option Addr) (c6 : Nat), i = .int .i64 j ∧ j ≤ l.length ∧ v13 = .slice A6 (others kn (S.take j)).length c6 ∧ Hid (wi.ownsRow w.heap.size 9 1 (.slice A6 (others kn (S.take j)).length c6) (others kn (S.take j)).length (namesV (others kn (S.take j)))) ∧ Hid (wi.ownsRow w.heap.size 9 1 (.slice A5 l.length c5) l.length (namesV S)) ∧ Hid (∀ q, (Value.slice A6 (others kn (S.take j)).length c6).ownBlock = some q → (Value.slice A5 l.length c5).ownBlock ≠ some q) ∧ Hid (wi.ownsRow w.heap.size 28 3 (.slice A0 G.length c0) G.length (G.flatMap Prod.fst)) ∧ Below w.heap.size w wi) (fun _ i _ => l.length - (intOf i).toNat)
          case atStart =>
            have e0 : others kn (S.take 0) = [] := by unfold others; rfl
            refine ⟨0, none, 0, rfl, by omega, by rw [e0]; rfl, Lib.hid ?_, HO5, Lib.hid (fun q hq => by simp [Value.ownBlock] at hq), HOG, hb5'⟩
            rw [e0, namesV_nil]
            exact World.ownsRow_nil _ _ _ _
          case round =>
            clear HO5 HOG hb5'
            obtain ⟨j, A6, c6, rfl, hj, rfl, HO, HO5, HNE, HOG, hb⟩ := hrel
            have hol : (others kn (S.take j)).length ≤ j := by
              have h1 : (others kn (S.take j)).length ≤ (S.take j).length := by unfold others; exact List.length_filter_le _ _
              have h2 : (S.take j).length ≤ j := List.length_take_le _ _
              omega
            by_cases hjl : j < l.length
            · have hjs : j < S.length := by have := HRL.out; omega
              obtain ⟨A', c', he, _, _, h3⟩ := own_form HO5.out
              simp only [Value.slice.injEq, true_and] at he
              obtain ⟨rfl, rfl⟩ := he
              obtain ⟨g, rfl, hg, hbg⟩ := h3 (by omega)
              have g0 := (HO5.out.cellAt j (by omega)).trans (namesV_at S j hjs)
              obtain ⟨hblt, cs', hc1, hc2, hp0⟩ := (HR.out.below hb).at_ hkl
              obtain ⟨A8, n8, c8, hcs⟩ := rpod_open hp0
              have d0 := hc2 0 _ (by rw [hcs]; rfl)
              simp only [Nat.add_zero] at d0
              rw [← HKN.out] at d0
              have HNO : Hid (sameS S[j].name kn = true → others kn (S.take (j + 1)) = others kn (S.take j)) := Lib.hid (fun h => by rw [List.take_succ_eq_append_getElem hjs, others_snoc_no h])
              have HYE : Hid (sameS S[j].name kn = false → others kn (S.take (j + 1)) = others kn (S.take j) ++ [S[j]]) := Lib.hid (fun h => by rw [List.take_succ_eq_append_getElem hjs, others_snoc_yes h])
              have hbw : b < wr.heap.size := by have := hb.size; omega
              generalize hsj : S[j] = r at *
              clear hsj
              obtain ⟨rn, hrn⟩ : ∃ rn : ByteArray, rn = r.name := ⟨_, rfl⟩
              have HRN := Lib.hid hrn
              rw [← hrn] at HNO HYE g0
              clear hc1 hc2 hcs hp0 hrn
              unfold sameS at HNO HYE
              cases hs : (rn.toList == kn.toList)
              · have HY2 := Lib.hid (HYE.out hs)
                clear HNO HYE
                go_upto_region 27 with fail
                go_quiet (fail)
                have HNM : Hid (namesV (others kn (S.take (j + 1))) = namesV (others kn (S.take j)) ++ [.string rn]) := Lib.hid (by rw [HY2.out, namesV_snoc, HRN.out])
                have HLN : Hid ((others kn (S.take (j + 1))).length = (others kn (S.take j)).length + 1) := Lib.hid (by rw [HY2.out]; simp)
                obtain ⟨T2, hT2⟩ : ∃ T2, T2 = others kn (S.take (j + 1)) := ⟨_, rfl⟩
                rw [← hT2] at HNM HLN
                have HT2 := Lib.hid hT2
                clear hT2 HY2
                generalize others kn (S.take j) = T1 at *
                have hbd := below_drewN3 hb nq
                have HO3 := Lib.hid (own_dn HO.out nq)
                have HO4 := Lib.hid (own_dn HO5.out nq)
                have HOG2 := Lib.hid (own_dn HOG.out nq)
                clear HO HO5 HOG hb
                go_wp2_with (at_builtin; refine wpList_app _ strT rfl (.tmp 102) (.tmp 107) rfl w.heap.size (.slice A6 T1.length c6) T1.length (namesV T1) rfl (by exact HO3.out.alloc _) ⟨wr.heap.size, 0, none⟩ 1 1 [.string rn] rfl rfl (by exact news_new (wr.drewN nq) [.string rn] 9) (by simp [Value.oneCell']) (by omega) (by unfold maxLen; omega) (by omega) (by have := hbd.size; simp at this ⊢; omega) ?_; intro g8 c8 w8 hown8 hgr8 hat8 hlt8)
                rw [← HNM.out] at hown8
                have HO8 := Lib.hid hown8
                have hba := hbd.alloc hbd.size (.cells #[.string rn] 9)
                have hb8 : Below w.heap.size w w8 := hba.grown hgr8 hba.size (fun q hq => (HO3.out.lt q hq).1)
                have HO28 := Lib.hid (own_kept (HO4.out.alloc (.cells #[.string rn] 9)) (S := fun q => (Value.slice A6 T1.length c6).ownBlock = some q) ((Kept.refl _ _).grown hgr8 (fun q hq => .inl hq)) (fun q hq hh => HNE.out q hh hq))
                have HOG8 := Lib.hid (own_kept (HOG2.out.alloc (.cells #[.string rn] 9)) (S := fun q => (Value.slice A6 T1.length c6).ownBlock = some q) ((Kept.refl _ _).grown hgr8 (fun q hq => .inl hq)) (fun q hq hh => ev_own_ne HOG2.out HO3.out (by decide) hq hh))
                have HNE8 : Hid (∀ q, (Value.slice (some ⟨g8, 0, none⟩) (T1.length + 1) c8).ownBlock = some q → (Value.slice (some ⟨g, 0, none⟩) l.length c5).ownBlock ≠ some q) := Lib.hid (by
                  intro q hq hh
                  have e1 : g8 = q := by simpa [Value.ownBlock] using hq
                  have e2 : g = q := by simpa [Value.ownBlock] using hh
                  subst e1
                  rcases hat8 with h | h
                  · exact HNE.out g8 h (by rw [e2]; rfl)
                  · have := (HO4.out.lt g8 (by rw [e2]; rfl)).2
                    simp at h this
                    omega)
                clear hown8 hgr8 hat8 hba HO3 HO4 HOG2 HNE hbd
                go_wp2_with fail
                go_roundw
                case rel => exact ⟨j + 1, some ⟨g8, 0, none⟩, c8, by go_num, by omega, by rw [← HT2.out, HLN.out], Lib.hid (by have := HO8.out; rw [← HLN.out] at this; rw [← HT2.out]; exact this), HO28, Lib.hid (by have := HNE8.out; rw [← HLN.out] at this; rw [← HT2.out]; exact this), HOG8, hb8⟩
                case measure => simp [intOf]; omega
              · have HN2 := Lib.hid (HNO.out hs)
                clear HNO HYE
                go_upto_region 27 with fail
                go_quiet (fail)
                go_wp2_with fail
                go_roundw
                case rel => exact ⟨j + 1, A6, c6, by go_num, by omega, by rw [HN2.out], Lib.hid (by rw [HN2.out]; exact HO.out), HO5, Lib.hid (by rw [HN2.out]; exact HNE.out), HOG, below_drewN3 hb _⟩
                case measure => simp [intOf]; omega
            · obtain rfl : j = l.length := by omega
              have e2 : S.take l.length = S := by rw [← HRL.out, List.take_length]
              rw [e2] at HO ⊢
              have hGL : (G.map Prod.snd).length = (restP l k0 l.length).length := by rw [HG.out]
              have hRP := goods_slice HOG.out HGI.out hb hb.size
              rw [HG.out] at hRP
              have HRA2 := Lib.hid (Rank_any _ (.slice Au us.length capu) (restP l k0 l.length) us wr.heap.size wr (Nat.le_refl _) hRP (rs_up (HU.out.below hb) hb.size) HFR.out (by omega))
              clear e2 hGL hRP HO5 HNE
              go_wp2_with fail
              refine HRA2.out.mono ?_
              intro e w7 hP
              have hP2 : RankP us (restP l k0 l.length) wr e w7 := hP
              obtain ⟨A7, c7, rfl, hown7, hb7⟩ := hP2
              rw [HRR.out] at hown7
              have hb7' := hb.trans (hb7.mono hb.size)
              have ho7 := own_below HO.out hb7
              have HST := Lib.hid (SameT_any _ _ _ _ _ _ (by rw [nm_len, HRLen.out]; omega) (rs_names hown7 HRLen.out.symm) (rs_names ho7 rfl) (fun b hb => (hown7.lt b hb).2) (fun b hb => (ho7.lt b hb).2))
              clear hP hown7 hb7 ho7 HO HRA2 HOG hb
              go_wp2_with fail
              refine HST.out.mono ?_
              rintro e w8 ⟨rfl, hb8⟩
              go_wp2_with fail
              go_ret
              exact ⟨rfl, hb7'.trans (hb8.mono hb7'.size)⟩
end
end Go.Proofs.Yticmfflnenoplac
