/- hints.Merge: its walk where the wishes are merged. -/
import Derived.Test.YticmfflnenoplabMergeD
namespace Go.Proofs.Yticmfflnenoplab
open Go.RowKit Mk

/-- The lists that have been made of the first wishes. -/
def Lists (wr : World) (T : Nat → Prop) (policy : Int) (n : Nat) (l : List Wi) (vs : List Value) : Prop := vs.length ≤ l.length ∧ ∀ i (h : i < vs.length) (h2 : i < l.length), RS wr T 2 RHint [vs[i]] (listP l[i] policy n)
theorem Lists.move {wr w' : World} {T T' : Nat → Prop} {policy : Int} {n : Nat} {l : List Wi} {vs : List Value} (h : Lists wr T policy n l vs) (hw : ∀ b, T b → w'.heap[b]? = wr.heap[b]?) (hT : ∀ b, T b → T' b) : Lists w' T' policy n l vs :=
  ⟨h.1, fun i hi hi2 => RS.move (h.2 i hi hi2) hw hT fun _ _ _ h => h⟩
theorem Lists.snoc {wr : World} {T : Nat → Prop} {policy : Int} {n : Nat} {l : List Wi} {vs : List Value} {v : Value} (h : Lists wr T policy n l vs) (hlt : vs.length < l.length) (hv : RS wr T 2 RHint [v] (listP l[vs.length] policy n)) : Lists wr T policy n l (vs ++ [v]) := by
  refine ⟨by simp; omega, fun i hi hi2 => ?_⟩
  by_cases he : i < vs.length
  · rw [List.getElem_append_left he]
    exact h.2 i he hi2
  · have : i = vs.length := by simp at hi; omega
    subst this
    simp only [List.getElem_append_right (Nat.le_refl _), Nat.sub_self, List.getElem_cons_zero]
    exact hv

theorem lists_at {wr : World} {T : Nat → Prop} {policy : Int} {n : Nat} {l : List Wi} {vs : List Value} (h : Lists wr T policy n l vs) : ∀ i (h : i < vs.length) (h2 : i < l.length), RS wr T 2 RHint [vs[i]] (listP l[i] policy n) := h.2
theorem lists_nil (wr : World) (T : Nat → Prop) (policy : Int) (n : Nat) (l : List Wi) : Lists wr T policy n l [] := ⟨by simp, fun i h => by simp at h⟩

section
attribute [local irreducible] mergeP listP MergeP Lists
set_option maxRecDepth 100000 in
set_option maxHeartbeats 4000000 in
theorem Merge_rest (policy : Int) (n : Nat) (l : List Wi) (A : Option Addr) (c : Nat) (S : Nat → Prop) (w : World) (hS : ∀ b, S b → b < w.heap.size) (hR : RS w S 2 (RWish w S) [.slice A l.length c] l) (hl16 : ∀ x, x ∈ l → x.hints.length ≤ 16)
    (h : ¬ (policy < 0 ∨ 3 < policy ∨ n = 0 ∨ 16 ≤ n)) (hl : ¬ 4 < l.length) (hp : policy ≠ 0) :
    Calls Try.prog 8 #[.int .i64 policy, .int .u8 n, .slice A l.length c] w (RetPlace (MergeP policy n l) w) := by
  rw [top_rest _ _ _ h hl hp]
  have h1 : decide (policy < 0) = false := by simp; omega
  have h2 : decide (3 < policy) = false := by simp; omega
  have h3 : ((n : Int) == 0) = false := by rw [beq_eq_false_iff_ne]; omega
  have h4 : n < 16 := by omega
  have h5 : (policy == 0) = false := by rw [beq_eq_false_iff_ne]; exact hp
  have h6 : l.length ≤ 4 := by omega
  have h7 : n ≠ 0 := by omega
  have H7 := Lib.hid h7
  clear h hl hp h7
  obtain ⟨A', c', e1, hc1, hc2, hA⟩ := hR.form
  simp only [List.cons.injEq, Value.slice.injEq, and_true, true_and] at e1
  obtain ⟨rfl, rfl⟩ := e1
  unfold maxLen at hc2
  have HA := Lib.hid hA
  have HR := Lib.hid hR
  have HS := Lib.hid hS
  have HL := Lib.hid hl16
  clear hA hR hS hl16
  go_enter Try.func8, Try.ntmps8
  go_upto_region 9 with fail
  go_loopw [9, 40] (fun s i wr => ∃ k : Nat, i = .int .i64 k ∧ k ≤ l.length ∧ Below w.heap.size w wr ∧ Blk wr w.heap.size 25 #[.int .u8 0, .bool false] ∧ ∃ vs, vs.length = k ∧ wr.ownsRow (w.heap.size + 1) 30 1 s k vs ∧ Lists wr (fun b => w.heap.size < b ∧ b < wr.heap.size ∧ s.ownBlock ≠ some b) policy n l vs) (fun _ i _ => l.length - (intOf i).toNat)
  case atStart => exact ⟨0, rfl, by omega, (Below.refl _ _).alloc (Nat.le_refl _) _, Blk.new _ _ _, [], rfl, World.ownsRow_nil _ _ _ _, lists_nil _ _ _ _ _⟩
  case round =>
    obtain ⟨k, rfl, hk, hbel, kr, vs, hvs, hown, hls⟩ := hrel
    have HVS := Lib.hid hvs
    have HLS := Lib.hid hls
    clear hvs hls
    obtain ⟨A9, c9, hs9, h91, h92, _⟩ := own_form hown
    subst hs9
    by_cases hlt : k < l.length
    · obtain ⟨b, off, rfl, hb⟩ := HA.out k hlt
      obtain ⟨_, cs', e1, e2, hv, e3, e4⟩ := HR.out.at_ hlt
      obtain ⟨Ah, ch, e5, g1, g2, g3⟩ := e4.form
      obtain rfl : hv = _ := by simpa using e5
      have r0 := (hbel.cell (p := ⟨b, off + k * 2 + 0, none⟩) (HS.out b hb)).trans (e2 0 _ (by rw [e3]; rfl))
      have r1 := (hbel.cell (p := ⟨b, off + k * 2 + 1, none⟩) (HS.out b hb)).trans (e2 1 _ (by rw [e3]; rfl))
      rw [Nat.add_zero] at r0
      have hx16 := HL.out l[k] (List.getElem_mem _)
      have HX : Hid (∀ vs' : List Value, vs'.length = k → ∀ (h : vs'.length < l.length), listP l[vs'.length] policy n = listP l[k] policy n) := fun vs' h1 h2 => by subst h1; rfl
      have hRx : RS wr S 2 RHint [.slice Ah l[k].hints.length ch] l[k].hints := RS.move e4 (fun q hq => hbel.block q (HS.out q hq)) (fun _ h => h) fun _ _ _ h => h
      generalize l[k] = x at *
      have hla := fun (W : World) (hW : Below wr.heap.size wr W) => list_any x hx16 policy n (by omega) Ah x.hints.length ch S W (fun q hq => Nat.lt_of_lt_of_le (Nat.lt_of_lt_of_le (HS.out q hq) hbel.size) hW.size) (RS.move hRx (fun q hq => hW.block q (Nat.lt_of_lt_of_le (HS.out q hq) hbel.size)) (fun _ h => h) fun _ _ _ h => h)
      have HLA := Lib.hid hla
      clear hla hRx e1 e2 e3 e4 e5 g3
      go_wp2_with fail
      refine (HLA.out _ ((Below.refl _ _).alloc (Nat.le_refl _) _)).mono ?_
      rintro e w2 ⟨v, rfl, hvr, hb2⟩
      obtain ⟨Av, cv, ev, gv1, gv2, _⟩ := hvr.form
      obtain rfl : v = _ := by simpa using ev
      have hb3 : Below wr.heap.size wr w2 := ((Below.refl _ _).alloc (Nat.le_refl _) _).trans (hb2.mono (by simp))
      have hown2 := own_below hown hb3
      have HVR := Lib.hid hvr
      have hsz := hbel.size
      have hsz3 := hb3.size
      clear ev hvr r0 r1 hb2
      go_wp2_with (at_builtin; refine wpList_app _ rowsT rfl (.tmp 44) (.tmp 49) rfl (w.heap.size + 1) _ _ _ rfl (by exact hown2.alloc _) ⟨w2.heap.size, 0, none⟩ 1 1 [.slice Av (listP x policy n).length cv] rfl rfl (news_new w2 _ _) (by simp [Value.oneCell']) (by omega) (by unfold maxLen; omega) (by omega) (by simp; have := kr.lt; omega) ?_; intro g cap w4 hown4 hg4 hat4 hlt4)
      go_roundw
      case rel =>
        have hb4 : Below w.heap.size w w4 := (((hbel.trans (hb3.mono hsz)).alloc (by omega) _).grown hg4 (by simp; omega) fun q hq => Nat.le_of_succ_le (hown.lt q hq).1)
        have hne : Value.ownBlock (.slice A9 k c9) ≠ some w.heap.size := fun he => by have := (hown.lt _ he).1; omega
        refine ⟨k + 1, by go_num, by omega, hb4, ?_, vs ++ [.slice Av (listP x policy n).length cv], by simp [HVS.out], hown4, ?_⟩
        · exact Blk.grown (((kr.below hb3 kr.lt)).alloc _) hg4 (fun h => hne h.symm)
        · have hold : ∀ q, q < w2.heap.size → Value.ownBlock (.slice A9 k c9) ≠ some q → w4.heap[q]? = w2.heap[q]? := fun q hq hn => (hg4.block q (by simp; omega) (fun h => hn h.symm)).trans (Below.heap_alloc _ _ _ hq)
          have hng : ∀ q, q < w2.heap.size → Value.ownBlock (.slice A9 k c9) ≠ some q → q ≠ g := fun q hq hn he => by
            rcases hat4 with h | h
            · have h' : Value.ownBlock (.slice A9 k c9) = some g := h
              exact hn (by rw [h', he])
            · simp at h; omega
          have hsz4 := hg4.size
          simp at hsz4
          refine Lists.snoc ?_ (by rw [HVS.out]; exact hlt) ?_
          · refine Lists.move HLS.out (fun q hq => (hold q (by omega) hq.2.2).trans (hb3.block q hq.2.1)) fun q hq => ⟨hq.1, by omega, fun h => hng q (by omega) hq.2.2 (by simpa [Value.ownBlock] using h.symm)⟩
          · rw [HX.out vs HVS.out (by rw [HVS.out]; exact hlt)]
            have hnn : ∀ q, wr.heap.size + 1 ≤ q → Value.ownBlock (.slice A9 k c9) ≠ some q := fun q hq h => by have := (hown.lt q h).2; omega
            refine RS.move HVR.out (fun q hq => hold q hq.2 (hnn q (by simpa using hq.1))) (fun q hq => ?_) fun _ _ _ h => h
            have h1 : wr.heap.size + 1 ≤ q := by simpa using hq.1
            exact ⟨by omega, by omega, fun h => hng q hq.2 (hnn q h1) (by simpa [Value.ownBlock] using h.symm)⟩
      case measure => simp [intOf]; omega
    · have hke : k = l.length := by omega
      subst hke
      have hll := lists_at HLS.out
      have HLL := Lib.hid hll
      clear hll
      generalize hbr : mergeP (l.map fun x => listP x policy n) ⟨n, true⟩ ⟨n, false⟩ = br at *
      have HBR := Lib.hid hbr
      clear hbr
      go_upto_region 14 with fail
      have hwb : Below wr.heap.size wr (wr.alloc (.cells #[.int .u8 n, .bool false] 25)) := (Below.refl _ _).alloc (Nat.le_refl _) _
      have kb := Blk.new wr 25 #[.int .u8 n, .bool false]
      have kr2 := kr.below hwb kr.lt
      have hown2 := own_below hown hwb
      have hbel2 := hbel.trans (hwb.mono hbel.size)
      have hrows : RS (wr.alloc (.cells #[.int .u8 n, .bool false] 25)) (fun q => q < wr.heap.size) 1 (RHints (wr.alloc (.cells #[.int .u8 n, .bool false] 25)) (fun q => q < wr.heap.size)) [.slice A9 l.length c9] (l.map fun x => listP x policy n) := by
        refine RS.rows (vs := vs) (by rw [HVS.out]; simp) (by simpa using hown2) (fun i hi => ?_) fun g hg => (hown.lt g hg).2
        have hi2 : i < l.length := by simpa using hi
        have := HLL.out i (by rw [HVS.out]; exact hi2) hi2
        simp only [List.getElem_map]
        exact RS.move this (fun q hq => hwb.block q hq.2.1) (fun q hq => hq.2.1) fun _ _ _ h => h
      generalize hwq : wr.alloc (.cells #[.int .u8 n, .bool false] 25) = wq at *
      have hsq : wq.heap.size = wr.heap.size + 1 := by rw [← hwq]; simp
      clear hwq
      have hm := merge_any (l.map fun x => listP x policy n) (.slice A9 l.length c9) ⟨n, true⟩ ⟨n, false⟩ wr.heap.size (fun q => q < wr.heap.size) wq (by dsimp only; omega) (by dsimp only; omega) (fun q hq => ⟨by omega, by omega⟩) hrows kb
      rw [HBR.out] at hm
      unfold Hint.val at hm
      dsimp only at hm
      have HMM := Lib.hid hm
      clear hm hrows
      go_wp2_with fail
      refine HMM.out.mono ?_
      rintro e w5 ⟨rfl, hb5, hk5⟩
      have hrs := kr.lt
      have kr5 := kr2.kept hk5 (fun h => by omega)
      have hbel5 : Below w.heap.size w w5 := hbel2.trans (hk5.below (Nat.le_trans hbel2.size (Nat.le_refl _)) fun q hq he => by have := hbel.size; omega)
      have e5 := hb5.cells
      have e6 := kr5.cells
      have f6 := kr5.frozens
      have hne6 : wr.heap.size ≠ w.heap.size := by omega
      obtain ⟨bm, bg⟩ := br
      have e7 := ((kr5.set_ 0 (.int .u8 bm)).set_ 1 (.bool bg)).cells
      cases bg
      · by_cases hp1 : policy = 1
        · subst hp1
          go_wp2_with fail
          refine bodyPost_ret (v := .tuple #[.agg #[.int .u8 bm, .bool false], .bool true, .nilIface]) (by simp [results, Try.results8, go_sem, e7]) rfl ⟨by rw [HBR.out]; rfl, ?_⟩
          exact (hbel5.setCell (Nat.le_refl _) _).setCell (Nat.le_refl _) _
        · have hpb : (policy == 1) = false := by rw [beq_eq_false_iff_ne]; exact hp1
          go_wp2_with fail
          refine bodyPost_ret (v := .tuple #[.agg #[.int .u8 bm, .bool false], .bool false, .nilIface]) (by simp [results, Try.results8, go_sem, e7]) rfl ⟨by rw [HBR.out, hpb]; rfl, ?_⟩
          exact (hbel5.setCell (Nat.le_refl _) _).setCell (Nat.le_refl _) _
      · go_wp2_with fail
        refine bodyPost_ret (v := .tuple #[.agg #[.int .u8 bm, .bool true], .bool true, .nilIface]) (by simp [results, Try.results8, go_sem, e7]) rfl ⟨by rw [HBR.out]; rfl, ?_⟩
        exact (hbel5.setCell (Nat.le_refl _) _).setCell (Nat.le_refl _) _
end
end Go.Proofs.Yticmfflnenoplab
