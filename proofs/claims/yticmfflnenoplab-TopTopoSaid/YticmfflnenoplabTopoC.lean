/- topo.New, Of, Nodes: their walks. -/
import Derived.Test.YticmfflnenoplabTopoB
import Derived.Test.YticmfflnenoplabMapF
import Derived.Maps.OwnOps
namespace Go.Proofs.Yticmfflnenoplab
open Go.RowKit Tp Go.Maps
def NewPost (l : List Cpu) (w : World) (e : Ending) (w' : World) : Prop :=
  Below w.heap.size w w' ∧ ((Fault l = 0 ∧ ∃ p, e = .returned (.tuple #[.pointer (some ⟨p, 0, none⟩), .nilIface]) ∧ w.heap.size ≤ p ∧ TopoAt w' (· < w'.heap.size) p l) ∨ (Fault l ≠ 0 ∧ e = .returned (.tuple #[.pointer none, errV (Fault l)])))
theorem keyI : Keyed Try.prog 3 := int_keyed Try.underlying3
theorem zeroC (w : World) : (zeroValue 41).run Try.prog w = .ok (.agg #[.int .i64 0, .int .i64 0, .int .i64 0]) w := by kernel_rfl
theorem elemC : ElemT Try.prog 36 41 (.agg #[.int .i64 0, .int .i64 0, .int .i64 0]) 3 24 := ⟨Try.underlying36, by kernel_rfl, rfl, by omega⟩
abbrev kI : Int → Lit := fun q => .int .i64 q
theorem kI_inj (y : Int) : ∀ x, kI x = kI y → x = y := fun x h => by simpa [kI] using h
theorem kI_key (y : Int) : WideAt.IsKeyLit (kI y) := by simp [WideAt.IsKeyLit]
theorem fault_bad (l : List Cpu) (k : Nat) (h : k < l.length) (hl : ¬ (l.length < 1 ∨ 64 < l.length)) (hf : fault l k = 0) (hb : badB l[k] = true) : Fault l = 1 := by
  have h1 : fault l (k + 1) = 1 := by rw [fault_next l k h hf, hb]; rfl
  unfold Fault
  rw [if_neg hl, fault_mono l (k + 1) l.length (by omega) (by omega), h1]
theorem fault_clash (l : List Cpu) (k : Nat) (h : k < l.length) (hl : ¬ (l.length < 1 ∨ 64 < l.length)) (hf : fault l k = 0) (hb : badB l[k] = false) (hc : clash l k l[k] = true) : Fault l = 3 := by
  have h1 : fault l (k + 1) = 3 := by rw [fault_next l k h hf, hb, hc]; rfl
  unfold Fault
  rw [if_neg hl, fault_mono l (k + 1) l.length (by omega) (by omega), h1]
theorem fault_fine (l : List Cpu) (k : Nat) (h : k < l.length) (hf : fault l k = 0) (hb : badB l[k] = false) (hc : clash l k l[k] = false) : fault l (k + 1) = 0 := by
  rw [fault_next l k h hf, hb, hc]; rfl
theorem fault_end (l : List Cpu) (hl : ¬ (l.length < 1 ∨ 64 < l.length)) (hf : fault l l.length = 0) : Fault l = 0 := by
  unfold Fault
  rw [if_neg hl, hf]
theorem new_bad {l : List Cpu} {n : Int} {w w' : World} (h : Fault l = n) (hn : n ≠ 0) (hb : Below w.heap.size w w') : NewPost l w (.returned (.tuple #[.pointer none, .iface 90 (.int .i64 n)])) w' :=
  ⟨hb, .inr ⟨by omega, by rw [h, errV_pos n hn]⟩⟩
theorem len3 (l : List Cpu) : (l.flatMap Cpu.cells).length = l.length * 3 := by
  induction l with
  | nil => rfl
  | cons x l ih => rw [List.flatMap_cons, List.length_append, ih]; simp [Cpu.cells]; omega
theorem one3 {l : List Cpu} : ∀ u ∈ l.flatMap Cpu.cells, u.oneCell' = true := by
  intro u hu
  obtain ⟨x, _, hx⟩ := List.mem_flatMap.1 hu
  simp [Cpu.cells] at hx
  rcases hx with rfl | rfl | rfl <;> rfl
section
attribute [local irreducible] fault lastOf clash badB Fault MapF
set_option maxRecDepth 100000 in
set_option maxHeartbeats 4000000 in
theorem New_any (l : List Cpu) (v : Value) (B : Nat) (w : World) (hB : B ≤ w.heap.size) (hR : RS w (· < B) 3 RCpu [v] l) :
    Calls Try.prog 11 #[v] w (NewPost l w) := by
  obtain ⟨A, c, e, hc1, hc2, hA⟩ := hR.form
  obtain rfl : v = _ := by simpa using e
  unfold maxLen at hc2
  have HA := Lib.hid hA
  have HR := Lib.hid hR
  clear hA hR e
  by_cases h1 : l.length < 1
  · have HF := Lib.hid (show Fault l = 2 by unfold Fault; rw [if_pos (.inl h1)])
    go_enter Try.func11, Try.ntmps11
    go_wp2_with fail
    go_ret2
    exact new_bad HF.out (by omega) (Below.refl _ _)
  by_cases h2 : 64 < l.length
  · have HF := Lib.hid (show Fault l = 2 by unfold Fault; rw [if_pos (.inr h2)])
    go_enter Try.func11, Try.ntmps11
    go_wp2_with fail
    go_ret2
    exact new_bad HF.out (by omega) (Below.refl _ _)
  have HL := Lib.hid (show ¬ (l.length < 1 ∨ 64 < l.length) by omega)
  have hmm := @run_makeMap Try.prog
  go_enter Try.func11, Try.ntmps11
  go_upto_region 5 with fail
  go_loopw [21] (fun i wr => ∃ n : Nat, i = .int .i64 n ∧ n ≤ l.length ∧ Hid (fault l n = 0) ∧ MapF wr Try.prog 3 kI w.heap.size n (fun q => (lastOf l n q).map Cpu.val) ∧ Below w.heap.size w wr) (fun i _ => l.length - (intOf i).toNat)
  case atStart => exact ⟨0, rfl, by omega, by unfold Hid; unfold fault; rfl, (MapF.made w Try.prog 3 kI).congr (fun x => by unfold lastOf; rfl), (Below.refl _ _).alloc (Nat.le_refl _) _⟩
  case round =>
    obtain ⟨n, rfl, hn, hft, hmap, hbel⟩ := hrel
    by_cases hlt : n < l.length
    · obtain ⟨b, off, rfl, hb⟩ := HA.out n hlt
      obtain ⟨_, cs', q1, q2, q3, q4⟩ := HR.out.at_ hlt
      have r0 := (hbel.cell (p := ⟨b, off + n * 3 + 0, none⟩) (by dsimp only; omega)).trans (q2 0 _ (by rw [q3]; rfl))
      have r1 := (hbel.cell (p := ⟨b, off + n * 3 + 1, none⟩) (by dsimp only; omega)).trans (q2 1 _ (by rw [q3]; rfl))
      have r2 := (hbel.cell (p := ⟨b, off + n * 3 + 2, none⟩) (by dsimp only; omega)).trans (q2 2 _ (by rw [q3]; rfl))
      rw [Nat.add_zero] at r0
      have hfb := Lib.hid (fault_bad l n hlt HL.out hft.out)
      have hfc := Lib.hid (fault_clash l n hlt HL.out hft.out)
      have hff := Lib.hid (fault_fine l n hlt hft.out)
      have hcl := Lib.hid (clash_last l n hft.out l[n])
      have hlast := Lib.hid (lastOf_next l n hlt)
      generalize l[n] = x at *
      obtain ⟨x0, x1, x2⟩ := x
      dsimp only at r0 r1 r2
      have hszm := hmap.lt
      have hszw := hbel.size
      have hbb := Lib.hid (show badB ⟨x0, x1, x2⟩ = (decide (x0 < 0) || decide (63 < x0) || decide (x1 < 0) || decide (63 < x1) || decide (x2 < 0) || decide (3 < x2)) by unfold badB; rfl)
      have hd : (x0 < 0 ∨ (0 ≤ x0 ∧ 63 < x0) ∨ (0 ≤ x0 ∧ x0 ≤ 63 ∧ x1 < 0) ∨ (0 ≤ x0 ∧ x0 ≤ 63 ∧ 0 ≤ x1 ∧ 63 < x1) ∨ (0 ≤ x0 ∧ x0 ≤ 63 ∧ 0 ≤ x1 ∧ x1 ≤ 63 ∧ x2 < 0) ∨ (0 ≤ x0 ∧ x0 ≤ 63 ∧ 0 ≤ x1 ∧ x1 ≤ 63 ∧ 0 ≤ x2 ∧ 3 < x2)) ∨ (0 ≤ x0 ∧ x0 ≤ 63 ∧ 0 ≤ x1 ∧ x1 ≤ 63 ∧ 0 ≤ x2 ∧ x2 ≤ 3) := by omega
      clear q1 q2 q3 q4 hmm
      rcases hd with hd | ⟨c0, c1, c2, c3, c4, c5⟩
      · have hbt := Lib.hid (show badB ⟨x0, x1, x2⟩ = true by rw [hbb.out]; simp; omega)
        have hbel2 : Below w.heap.size w (wr.alloc (.cells #[.int .i64 x0, .int .i64 x1, .int .i64 x2] 41)) := hbel.alloc hszw _
        rcases hd with h | ⟨ha, h⟩ | ⟨ha, hb, h⟩ | ⟨ha, hb, hc, h⟩ | ⟨ha, hb, hc, hd, h⟩ | ⟨ha, hb, hc, hd, he, h⟩
        all_goals
          go_wp2_with fail
          go_ret2
          exact new_bad (hfb.out hbt.out) (by omega) hbel2
      · have hbt := Lib.hid (show badB ⟨x0, x1, x2⟩ = false by rw [hbb.out]; simp; omega)
        have HFF := Lib.hid (hff.out hbt.out)
        have hk := keyOf_int_mk Try.underlying3 (a := x0) (q := .i64) (WalkArith.wf_i64 (by omega))
        have HK := Lib.hid hk
        have hz := hcl.out
        clear hk
        cases ho : lastOf l n x0 with
        | none =>
          have HO := Lib.hid ho
          have HC := Lib.hid (HFF.out (by rw [hz, ho]))
          have HFN := Lib.hid (show ((lastOf l n x0).map Cpu.val) = none by rw [ho]; rfl)
          clear ho hz
          go_wp2_with (first
            | (at_lookup; refine wpList_mapF_ok _ rfl _ _ 96 rfl 3 41 keyI Try.underlying96 (zeroC _) rfl (hmap.alloc _) _ x0 rfl HK.out ?_; rw [HFN.out])
            | (at_mapUpdate; refine wpList_mapF_put _ rfl _ _ _ 96 rfl 3 41 keyI Try.underlying96 rfl ((hmap.alloc _).alloc _) (by unfold maxLen; omega) _ _ x0 rfl rfl HK.out (kI_key _) (kI_inj _) (fun q => (lastOf l (n + 1) q).map Cpu.val) (by rw [hlast.out]; simp; rfl) (fun q hq => by rw [hlast.out, if_neg (Ne.symm hq)]) ?_; intro w2 hmap2 hg2 hz2))
          go_roundw
          case rel => exact ⟨n + 1, by go_num, by omega, HC.out, hmap2, ((((hbel.alloc hszw _).alloc (by simp; omega) _)).grown hg2 (by simp; omega) (fun k hk => by injection hk with hk; omega))⟩
          case measure => simp [intOf]; omega
        | some d =>
          obtain ⟨hdc, _⟩ := lastOf_mem l n x0 d ho
          obtain ⟨d0, d1, d2⟩ := d
          dsimp only at hdc
          subst hdc
          have HFN := Lib.hid (show ((lastOf l n d0).map Cpu.val) = some (.agg #[.int .i64 d0, .int .i64 d1, .int .i64 d2]) by rw [ho]; rfl)
          have HO := Lib.hid ho
          clear ho
          by_cases he : d1 = x1 ∧ d2 = x2
          · obtain ⟨rfl, rfl⟩ := he
            have HC := Lib.hid (HFF.out (by rw [hz, HO.out]; simp))
            clear hz
            go_wp2_with (first
              | (at_lookup; refine wpList_mapF_ok _ rfl _ _ 96 rfl 3 41 keyI Try.underlying96 (zeroC _) rfl (hmap.alloc _) _ d0 rfl HK.out ?_; rw [HFN.out])
              | (at_mapUpdate; refine wpList_mapF_put _ rfl _ _ _ 96 rfl 3 41 keyI Try.underlying96 rfl ((hmap.alloc _).alloc _) (by unfold maxLen; omega) _ _ d0 rfl rfl HK.out (kI_key _) (kI_inj _) (fun q => (lastOf l (n + 1) q).map Cpu.val) (by rw [hlast.out]; simp; rfl) (fun q hq => by rw [hlast.out, if_neg (Ne.symm hq)]) ?_; intro w2 hmap2 hg2 hz2))
            go_roundw
            case rel => exact ⟨n + 1, by go_num, by omega, HC.out, hmap2, ((((hbel.alloc hszw _).alloc (by simp; omega) _)).grown hg2 (by simp; omega) (fun k hk => by injection hk with hk; omega))⟩
            case measure => simp [intOf]; omega
          · have hbt2 := Lib.hid (show clash l n ⟨d0, x1, x2⟩ = true by rw [hz, HO.out]; simp; omega)
            have hd : d1 ≠ x1 ∨ (d1 = x1 ∧ d2 ≠ x2) := by omega
            clear he hz
            have hbel2 : Below w.heap.size w ((wr.alloc (.cells #[.int .i64 d0, .int .i64 x1, .int .i64 x2] 41)).alloc (.cells #[.int .i64 d0, .int .i64 d1, .int .i64 d2] 41)) := (hbel.alloc hszw _).alloc (by simp; omega) _
            rcases hd with hd | ⟨rfl, hd⟩
            all_goals
              go_wp2_with (at_lookup; refine wpList_mapF_ok _ rfl _ _ 96 rfl 3 41 keyI Try.underlying96 (zeroC _) rfl (hmap.alloc _) _ d0 rfl HK.out ?_; rw [HFN.out])
              go_ret2
              exact new_bad (hfc.out hbt.out hbt2.out) (by omega) hbel2
    · obtain rfl : n = l.length := by omega
      obtain ⟨b, off, rfl, hb⟩ := HA.out 0 (by omega)
      have HFE := Lib.hid (fault_end l HL.out hft.out)
      have hnews : ∀ j u, (l.flatMap Cpu.cells)[j]? = some u → wr.cell? ((⟨b, off, none⟩ : Addr).add j) = some u := by
        intro j u hu
        have hlen : (l.flatMap Cpu.cells).length = l.length * 3 := len3 l
        have hj : j < l.length * 3 := by
          have := (List.getElem?_eq_some_iff.1 hu).1
          omega
        obtain ⟨_, cs', e1, e2, e3, e4⟩ := HR.out.at_ (i := j / 3) (by omega)
        have hx := flatMap_at (C := 3) (f := Cpu.cells) l (fun x _ => rfl) (j / 3) (by omega) (j % 3) (by omega)
        rw [show j / 3 * 3 + j % 3 = j by omega, hu] at hx
        have hy := e2 (j % 3) u (by rw [e3]; exact hx.symm)
        rw [show off + j / 3 * 3 + j % 3 = off + j by omega] at hy
        rw [add_mk]
        exact (hbel.cell (p := ⟨b, off + j, none⟩) (by dsimp only; omega)).trans hy
      have HN := Lib.hid hnews
      have hszm := hmap.lt
      have hszw := hbel.size
      have HLEN := Lib.hid (len3 l)
      clear hnews hmm
      go_wp2_with (at_builtin; refine wpList_app _ elemC rfl _ _ rfl 0 (.slice none 0 0) 0 [] rfl (World.ownsRow_nil _ _ _ _) ⟨b, off, none⟩ l.length _ (l.flatMap Cpu.cells) rfl HLEN.out HN.out one3 (by omega) (by unfold maxLen; omega) (by omega) (by omega) ?_; intro g cap w2 own hg hgn hgl)
      have hRC : ∀ x, x ∈ l → RCpu x.cells x := by
        intro x hx
        obtain ⟨i, hi, rfl⟩ := List.mem_iff_getElem.1 hx
        obtain ⟨_, cs', e1, e2, e3, e4⟩ := HR.out.at_ hi
        exact ⟨rfl, e4⟩
      have hs0 := hg.size
      have hbe : Below w.heap.size w w2 := hbel.grown hg hszw (fun k hk => by simp [Value.ownBlock] at hk)
      have hrs : RS w2 (· < w2.heap.size) 3 RCpu [.slice (some ⟨g, 0, none⟩) l.length cap] l := by
        refine RS.own (f := Cpu.cells) (e := 41) (base := 0) (by simpa using own) (fun x _ => rfl) hRC (fun k hk => ?_)
        simp [Value.ownBlock] at hk
        omega
      have hal : Below w2.heap.size w2 (w2.alloc (.cells #[.slice (some ⟨g, 0, none⟩) l.length cap] 99)) := (Below.refl _ _).alloc (Nat.le_refl _) _
      go_ret2
      refine ⟨hbe.alloc (by omega) _, .inl ⟨HFE.out, _, rfl, by omega, _, Blk.new _ _ _, ?_⟩⟩
      exact RS.move hrs (fun b hb => hal.block b hb) (fun b hb => by simp; omega) (fun _ _ _ h => h)
end
end Go.Proofs.Yticmfflnenoplab
