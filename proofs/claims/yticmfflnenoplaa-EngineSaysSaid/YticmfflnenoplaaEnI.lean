/- EngineSays: its walk. No statement is proved here. -/
import Derived.Test.YticmfflnenoplaaEnK
import Derived.Test.YticmfflnenoplaaDiskSays
import Derived.Test.YticmfflnenoplaaFloC
namespace Go.Proofs.Yticmfflnenoplaa
open Go.RowKit Dk Da
theorem lightAct_l {l : List LAct} {n : Int} (h : lightActs l n = true) {k : Nat} (hk : k < l.length) : l[k].l.length ≤ 30 := by
  simp only [lightActs, Bool.and_eq_true, List.all_eq_true] at h
  have := h.2 l[k] (List.getElem_mem hk)
  simp only [lightAct, Bool.and_eq_true, decide_eq_true_eq] at this
  exact this.1.1.2
theorem and1023 (a : Int) : ∃ q : Nat, q < 1024 ∧ bits .and .i64 a 1023 = (q : Int) := by
  have h : (BitVec.ofInt 64 a &&& BitVec.ofInt 64 1023).toNat ≤ 1023 := by
    rw [BitVec.toNat_and]
    exact Nat.and_le_right
  refine ⟨(BitVec.ofInt 64 a &&& BitVec.ofInt 64 1023).toNat, by omega, ?_⟩
  show IntKind.i64.wrap ((BitVec.ofInt 64 a &&& BitVec.ofInt 64 1023).toNat : Int) = _
  generalize (BitVec.ofInt 64 a &&& BitVec.ofInt 64 1023).toNat = q at *
  rw [IntKind.wrap_i64]
  omega
theorem name_at (j : Nat) (hj : j < 3) : ∃ nm : ByteArray, (#[.string ⟨#[120]⟩, .string ⟨#[121]⟩, .string ⟨#[122, 122]⟩] : Array Value)[j]? = some (.string nm) := by
  rcases (show j = 0 ∨ j = 1 ∨ j = 2 by omega) with rfl | rfl | rfl
  · exact ⟨_, rfl⟩
  · exact ⟨_, rfl⟩
  · exact ⟨_, rfl⟩
theorem rdI_of {w : World} {B : Nat} {A : Option Addr} {n c : Nat} {l : List Int} (h : RSlice w B 1 RInt [.slice A n c] l) (hB : B ≤ w.heap.size) : n = l.length ∧ RdI w (fun b => b < B) A l := by
  obtain ⟨A', cap, he, _, _, h4⟩ := h
  simp only [List.cons.injEq, Value.slice.injEq, and_true] at he
  obtain ⟨rfl, rfl, rfl⟩ := he
  refine ⟨rfl, ?_⟩
  rcases h4 with h4 | ⟨b, off, rfl, hb, h4⟩
  · exact ⟨fun _ => h4, fun hp => by omega⟩
  · refine ⟨fun h => (by cases h), fun _ => ⟨b, off, rfl, hb, by omega, fun j u hu => ?_⟩⟩
    have hj : j < l.length := by
      have := (List.getElem?_eq_some_iff.1 hu).1
      simpa [En.intsV] using this
    obtain ⟨cs', _, h5, h6⟩ := h4 j hj
    have := h5 0 _ (by rw [h6.1]; rfl)
    rw [Nat.mul_one, Nat.add_zero] at this
    rw [this]
    rw [intsV_at l j hj] at hu
    exact hu
/-- What holds between two acts. -/
def ESK (w0 w : World) (bd be bm bn : Nat) (k : Nat) (v7 : Value) : Prop :=
  ∃ s lr A7 c7 wvd wvm v l, v7 = .slice A7 lr.length c7 ∧ ES w0 w bd be bm bn s s lr (.slice A7 lr.length c7) wvd wvm v l ∧ Fine k s ∧ En.Srt lr ∧ lr.length ≤ k
theorem ES.dl {w0 w : World} {bd be bm bn : Nat} {s r : St} {lr : List En.Run} {v7 wvd wvm v : Value} {l : List En.Run} (h : ES w0 w bd be bm bn s r lr v7 wvd wvm v l) : ∀ x ∈ l, x.devs.length ≤ 1000000 := by
  intro x hx
  have hm : x.pr ∈ lr.map En.Run.pr := by rw [← h.pr]; exact List.mem_map_of_mem hx
  obtain ⟨y, hy, he⟩ := List.mem_map.1 hm
  have h1 := (h.devs y hy).2
  have h2 : y.devs = x.devs := congrArg En.PR.devs he
  rw [← h2]
  omega
/-- What stands behind one of the row, as news. -/
theorem drop_news {w : World} {base g n cap : Nat} {l : List En.Run} (h : w.ownsRow base 117 4 (.slice (some ⟨g, 0, none⟩) n cap) n (En.flatR l)) (hl : l.length = n) (u : Nat) (hu : u < n) :
    ∃ A : Addr, (if cap = u + 1 then some (⟨g, 0, none⟩ : Addr) else some ⟨g, (u + 1) * 4, none⟩) = some A ∧ Hid (∀ j x, (En.flatR (l.drop (u + 1)))[j]? = some x → w.cell? (A.add j) = some x) := by
  have hn : (En.flatR (l.drop (u + 1))).length = (n - (u + 1)) * 4 := by rw [En.flatR_len]; simp; omega
  have hc := (own_blk h).choose_spec
  by_cases hcap : cap = u + 1
  · refine ⟨⟨g, 0, none⟩, by simp [hcap], fun j x hx => ?_⟩
    have h0 : (En.flatR (l.drop (u + 1))).length = 0 := by rw [hn]; omega
    rw [List.length_eq_zero_iff.1 h0] at hx
    simp at hx
  · refine ⟨⟨g, (u + 1) * 4, none⟩, by simp [hcap], fun j x hx => ?_⟩
    have hj := (List.getElem?_eq_some_iff.1 hx).1
    rw [Addr.add_lit, h.cellAt _ (by omega), ← hx, ← En.flatR_drop l (u + 1) (by omega), List.getElem?_drop]
theorem take_news {w : World} {base g n cap : Nat} {l : List En.Run} (h : w.ownsRow base 117 4 (.slice (some ⟨g, 0, none⟩) n cap) n (En.flatR l)) (hl : l.length = n) (u : Nat) (hu : u < n) :
    Hid (∀ j x, (En.flatR (l.take u))[j]? = some x → w.cell? ((⟨g, 0, none⟩ : Addr).add j) = some x) := Lib.hid (by
  intro j x hx
  have hj := (List.getElem?_eq_some_iff.1 hx).1
  rw [En.flatR_len] at hj
  simp at hj
  rw [Addr.add_lit, Nat.zero_add, h.cellAt _ (by omega), ← hx, ← En.flatR_take l u (by omega), List.getElem?_take, if_pos (by omega)])
theorem ESK.stop {w0 w w' : World} {bd be bm bn k u : Nat} {s : St} {lr : List En.Run} {v7 wvd wvm v : Value} {l : List En.Run} {lp : List En.PR} (hE : EM w0 w bd be bm bn s s lr v7 wvd wvm v l lp) (hu : u < lr.length) (hb : Below w.heap.size w w') (v8 : Value)
    (hrow : w'.ownsRow w.heap.size 117 4 v8 (lr.length - 1) (En.flatR (lr.take u ++ lr.drop (u + 1)))) (hp : lp = (lr.map En.Run.pr).take u ++ (lr.map En.Run.pr).drop (u + 1)) (hf : Fine k s) (hs : En.Srt lr) (hk : lr.length ≤ k) : ESK w0 w' bd be bm bn k v8 := by
  obtain ⟨A8, c8, rfl, _⟩ := own_form hrow
  have hlen : (lr.take u ++ lr.drop (u + 1)).length = lr.length - 1 := by simp; omega
  have hES := hE.toES (Kept.of_below hb) (v7' := .slice A8 (lr.length - 1) c8) (lr' := lr.take u ++ lr.drop (u + 1)) (by rw [hlen]; exact own_base hrow hE.bel.size) (by rw [hp]; simp) (fun x hx => hE.devs x (by
    rcases List.mem_append.1 hx with hx | hx
    · exact List.mem_of_mem_take hx
    · exact List.mem_of_mem_drop hx)) (fun q hq he => by
      have h1 := (hE.e.row.lt q hq).2
      have h2 := (hrow.lt q he).1
      omega)
  exact ⟨s, lr.take u ++ lr.drop (u + 1), A8, c8, wvd, wvm, v, l, by rw [hlen], by rw [hlen]; exact hES, hf, hs.del u, by omega⟩
section
set_option maxRecDepth 100000 in
set_option maxHeartbeats 8000000 in
theorem engineSays_any (v : Value) (l : List LAct) (w : World) (h : RSlice w w.heap.size 10 (RAct w w.heap.size) [v] l) :
    Calls Try.prog 8 #[v] w (RetBB true w) := by
  obtain ⟨A, cap, hv, hl, hcap, hA⟩ := h.form
  obtain rfl : v = _ := by simpa using hv
  unfold maxLen at hcap
  have HL := Lib.hid (fun (w1 : World) (hb : Below w.heap.size w w1) => lightActs_any (.slice A l.length cap) l 60 w1 w.heap.size hb.size ((h.mono fun _ _ h => h.below hb).below hb))
  have HA := Lib.hid hA
  have HR := Lib.hid h
  clear hA h hv
  cases hla : lightActs l 60
  · rw [hla] at HL
    clear hla
    go_enter Try.func8, Try.ntmps8
    go_wp2_with fail
    refine (engines_any _).mono ?_
    rintro e w1 ⟨rfl, hb1⟩
    go_wp2_with fail
    refine (HL.out w1 hb1).mono ?_
    rintro e w2 ⟨rfl, hb2⟩
    go_wp2_with fail
    go_ret
    exact ⟨rfl, hb1.trans (hb2.mono hb1.size)⟩
  · rw [hla] at HL
    have HLL := Lib.hid (fun k (hk : k < l.length) => lightAct_l hla hk)
    have hlen : (l.length : Int) ≤ 60 := by
      simp only [lightActs, Bool.and_eq_true, decide_eq_true_eq] at hla
      exact hla.1
    clear hla
    go_enter Try.func8, Try.ntmps8
    go_wp2_with fail
    refine (engines_any _).mono ?_
    rintro e w1 ⟨rfl, hb1⟩
    go_wp2_with fail
    refine (HL.out w1 hb1).mono ?_
    rintro e w2 ⟨rfl, hb2⟩
    clear HL
    have hbw2 := hb1.trans (hb2.mono hb1.size)
    clear hb1 hb2
    go_wp2_with fail
    refine (DkP.new_any _).mono ?_
    rintro e w3 ⟨bd, rfl, hi3, hbd, hb3⟩
    have HBD := Lib.hid (show w.heap.size ≤ bd by rw [hbd]; exact hbw2.size)
    clear hbd
    have hbw3 := hbw2.trans (hb3.mono hbw2.size)
    clear hb3 hbw2
    go_wp2_with fail
    refine (EnNew_any w.heap.size bd w3).mono ?_
    rintro e w4 ⟨rfl, hE4, hb4⟩
    have HBE := Lib.hid (show w.heap.size ≤ w3.heap.size from hbw3.size)
    have hi4 := hi3.kept (S := fun _ => False) (Kept.of_below hb4) (fun h => h) (fun _ _ h => h)
    have hbw4 := hbw3.trans (hb4.mono hbw3.size)
    clear hi3 hb4 hbw3
    generalize w3.heap.size = be at *
    go_wp2_with fail
    refine (DkR.new_any _).mono ?_
    rintro e w5 ⟨bm, rfl, hi5, hbm, hb5⟩
    have HBM := Lib.hid (show w.heap.size ≤ bm by rw [hbm]; exact hbw4.size)
    clear hbm
    have hi6 := hi4.kept (S := fun _ => False) (Kept.of_below hb5) (fun h => h) (fun _ _ h => h)
    have hE6 := hE4.below hb5
    have hbw5 := hbw4.trans (hb5.mono hbw4.size)
    clear hi4 hE4 hb5 hbw4
    go_upto_region 9 with fail
    have kn := Blk.new w5 9 #[.string nmX, .string nmY, .string nmZ]
    have hb7 : Below w5.heap.size w5 (w5.alloc (.cells #[.string nmX, .string nmY, .string nmZ] 9)) := (Below.refl _ _).alloc (Nat.le_refl _) _
    have hES : ESK w (w5.alloc (.cells #[.string nmX, .string nmY, .string nmZ] 9)) bd be bm w5.heap.size 0 (.slice none 0 0) := by
      refine ⟨Dk.new, [], none, 0, _, _, _, _, rfl, ⟨hi6.kept (S := fun _ => False) (Kept.of_below hb7) (fun h => h) (fun _ _ h => h), hi5.kept (S := fun _ => False) (Kept.of_below hb7) (fun h => h) (fun _ _ h => h), hE6.below hb7, World.ownsRow_nil _ _ _ _, rfl, by simp, kn, by simp [Value.ownBlock], HBD.out, HBE.out, HBM.out, by simp [Value.ownBlock], by simp [Value.ownBlock], hbw5.trans (hb7.mono hbw5.size)⟩, Fine.new, En.Srt.nil, by simp⟩
    have HES := Lib.hid hES
    clear hES kn hb7 hi6 hi5 hE6 hbw5 HBD HBE HBM
    have hw6 : w5.alloc (.cells #[.string nmX, .string nmY, .string nmZ] 9) = w5.alloc (.cells #[.string ⟨#[120]⟩, .string ⟨#[121]⟩, .string ⟨#[122, 122]⟩] 9) := rfl
    rw [hw6] at HES
    clear hw6
    generalize w5.alloc (.cells #[.string ⟨#[120]⟩, .string ⟨#[121]⟩, .string ⟨#[122, 122]⟩] 9) = w6 at *
    generalize w5.heap.size = bn at *
    go_upto_region 10 with fail
    go_loopw [7, 9] (fun v7 i wr => ∃ k : Nat, i = .int .i64 k ∧ k ≤ l.length ∧ ESK w wr bd be bm bn k v7) (fun _ i _ => l.length - (intOf i).toNat)
    case atStart => exact ⟨0, rfl, by omega, HES.out⟩
    case round =>
      clear HES
      obtain ⟨k, rfl, hk, hesk⟩ := hrel
      obtain ⟨s, lr, A7, c7, wvd, wvm, v, le, rfl, hes, hfi, hsrt, hlk⟩ := hesk
      have hbl := hes.bel
      by_cases hlt : k < l.length
      · obtain ⟨b, off, rfl⟩ := HA.out k hlt
        obtain ⟨hblt, cs', hc1, hc2, lv, p0, p1, p2, uv, hr1, hr2, hr3, hr4, hr5, _, hls, hpd, hus⟩ := (HR.out.below hbl).at_ hlt
        obtain ⟨A5, n5, c5, rfl⟩ := slice_val hls
        obtain ⟨A9, n9, c9, rfl⟩ := slice_val hus
        obtain ⟨A8, n8, c8, rfl, rfl, rfl⟩ := pod_val hpd
        have hll := HLL.out k hlt
        have HLS := Lib.hid hls
        clear hls hpd hus
        have g0 := hc2 0 _ (by rw [hr1]; rfl)
        have g1 := hc2 1 _ (by rw [hr1]; rfl)
        have g2 := hc2 2 _ (by rw [hr1]; rfl)
        have g3 := hc2 3 _ (by rw [hr1]; rfl)
        have g4 := hc2 4 _ (by rw [hr1]; rfl)
        have g5 := hc2 5 _ (by rw [hr1]; rfl)
        have g6 := hc2 6 _ (by rw [hr1]; rfl)
        have g7 := hc2 7 _ (by rw [hr1]; rfl)
        have g8 := hc2 8 _ (by rw [hr1]; rfl)
        have g9 := hc2 9 _ (by rw [hr1]; rfl)
        simp only [Nat.add_zero] at g0
        clear hc2 hr1 hc1
        unfold maxLen at hr2 hr3
        generalize l[k] = x at *
        obtain ⟨kind, str, xa, xb, xm, xl, xp, xu⟩ := x
        dsimp only at *
        obtain ⟨q, hq1, hq2⟩ := and1023 xb
        have hrem : (q : Int).tmod 3 = ((q % 3 : Nat) : Int) := by rw [Int.tmod_eq_emod_of_nonneg (by omega)]; rfl
        have hj : q % 3 < 3 := Nat.mod_lt _ (by omega)
        generalize q % 3 = j at *
        obtain ⟨nm, hnm⟩ := name_at j hj
        have rn := (hes.names.cell j).trans hnm
        have hbn := hes.names.lt
        have ka := Blk.new wr 36 #[.string kind, .string str, .int .i64 xa, .int .i64 xb, .int .u8 xm, .slice A5 n5 c5, .string xp.name, .int .i64 xp.prio, .slice A8 n8 c8, .slice A9 n9 c9]
        have hba : Below wr.heap.size wr (wr.alloc (.cells #[.string kind, .string str, .int .i64 xa, .int .i64 xb, .int .u8 xm, .slice A5 n5 c5, .string xp.name, .int .i64 xp.prio, .slice A8 n8 c8, .slice A9 n9 c9] 36)) := (Below.refl _ _).alloc (Nat.le_refl _) _
        have rn1 := (hba.cell (p := ⟨bn, j, none⟩) hbn).trans rn
        have hes1 := Lib.hid (hes.below hba)
        clear hnm rn hes hba
        go_upto_region 13 with fail
        generalize wr.alloc (.cells #[.string kind, .string str, .int .i64 xa, .int .i64 xb, .int .u8 xm, .slice A5 n5 c5, .string xp.name, .int .i64 xp.prio, .slice A8 n8 c8, .slice A9 n9 c9] 36) = wa at *
        generalize wr.heap.size = pa at *
        clear g0 g1 g2 g3 g4 g5 g6 g7 g8 g9
        have la := ka.lt
        have e0 := ka.cells
        have hI : Below wa.heap.size wa wa.drew := (Below.refl _ _).drew
        have hbn2 : bn < wa.heap.size := hes1.out.names.lt
        refine Flo.region 16 [(0, true), (1, true), (2, true), (3, true), (4, true), (5, true), (6, true), (7, true), (8, true), (9, true), (10, true), (11, true), (12, true), (13, true), (14, true), (15, false)] (fun v => Below wa.heap.size wa v) (by kernel_rfl) (by kernel_rfl) rfl hI ?_
        simp only [List.drop_succ_cons, List.drop_zero]
        iterate 15 (apply Flo.op rfl (hI := hI); (· intro v hv K hK; obtain ⟨hc, hf⟩ := Flo.bcl hv; go_wp2_with fail; all_goals first | exact Flo.noUndef (by with_reducible assumption) | exact hK); (· rfl))
        refine Flo.seq rfl fun K hK => ?_
        go_wp2_with fail
        have hI2 : Below wa.heap.size wa (wa.alloc (.cells #[.string ⟨#[]⟩, .string ⟨#[]⟩, .int .u64 0, .slice none 0 0] 117)) := (Below.refl _ _).alloc (Nat.le_refl _) _
        refine hK _ _ ⟨hI2.os, hI2.tape, hI2.output, hI2.size, hI2.block⟩ ?_
        clear hK
        refine Flo.tail fun K hK => ?_
        obtain ⟨hn5, hrd⟩ := rdI_of HLS.out (Nat.le_refl _)
        have HN5 := Lib.hid hn5
        have HRD := Lib.hid hrd
        subst hn5
        have kr := (Blk.new wa 117 #[.string str, .string nm, .int .u64 (IntKind.u64.wrap xa), .slice A5 xl.length c5]).drew
        have hIW : Below wa.heap.size wa (wa.alloc (.cells #[.string str, .string nm, .int .u64 (IntKind.u64.wrap xa), .slice A5 xl.length c5] 117)).drew := ((Below.refl _ _).alloc (Nat.le_refl _) _).drew
        have ka2 := ka.below hIW la
        have HPR : Hid ((∀ g, v.ownBlock = some g → g < wa.heap.size) ∧ (∀ g, (Value.slice A7 lr.length c7).ownBlock = some g → g < wa.heap.size)) := Lib.hid ⟨fun g hg => (hes1.out.e.row.lt g hg).2, fun g hg => (hes1.out.row.lt g hg).2⟩
        have hes2 := Lib.hid (hes1.out.below hIW)
        clear hI hI2 hrd HLS rn1 hq1 e0 ka la hbn2 hes1 hIW hrem hq2
        go_upto_region 16 with fail
        generalize IntKind.u64.wrap xa = X at *
        generalize (wa.alloc (.cells #[.string str, .string nm, .int .u64 X, .slice A5 xl.length c5] 117)).drew = W at *
        generalize wa.heap.size = pr at *
        obtain ⟨A7', c7', he7, hc1, hc2, h37⟩ := own_form hes2.out.row
        have h37' := Lib.hid h37
        unfold maxLen at hc2
        simp only [Value.slice.injEq, true_and] at he7
        obtain ⟨rfl, rfl⟩ := he7
        have HRW := Lib.hid hes2.out.row
        have lr2 := kr.lt
        clear h37
        go_loopw [12, 13] (fun a i wi => ∃ (t : Nat) (z : Int), i = .int .i64 t ∧ t ≤ lr.length ∧ a = .int .i64 z ∧ Below W.heap.size W wi ∧ Hid ((z = -1 ∧ ∀ u (hu : u < lr.length), u < t → En.isK lr[u] str nm = false) ∨ ∃ u, ∃ hu : u < lr.length, u < t ∧ z = u ∧ En.isK lr[u] str nm = true)) (fun _ i _ => lr.length - (intOf i).toNat)
        case atStart => exact ⟨0, -1, rfl, by omega, rfl, Below.refl _ _, Lib.hid (.inl ⟨rfl, fun u hu h => by omega⟩)⟩
        case round =>
          obtain ⟨t, z, rfl, ht, rfl, hbw, HZ⟩ := hrel
          by_cases htl : t < lr.length
          · obtain ⟨g7, rfl, hg7, _⟩ := h37'.out (by omega)
            have r0 := (hbw.cell (p := ⟨g7, t * 4, none⟩) hg7).trans ((HRW.out.cellAt (t * 4 + 0) (by omega)).trans (En.flatR_at lr t htl 0 (by omega)))
            have r1 := (hbw.cell (p := ⟨g7, t * 4 + 1, none⟩) hg7).trans ((HRW.out.cellAt (t * 4 + 1) (by omega)).trans (En.flatR_at lr t htl 1 (by omega)))
            have hHit : En.isK lr[t] str nm = true → Hid (((t : Int) = -1 ∧ ∀ u (hu : u < lr.length), u < t + 1 → En.isK lr[u] str nm = false) ∨ ∃ u, ∃ hu : u < lr.length, u < t + 1 ∧ (t : Int) = u ∧ En.isK lr[u] str nm = true) := fun h => Lib.hid (.inr ⟨t, htl, by omega, rfl, h⟩)
            have hMiss : En.isK lr[t] str nm = false → Hid ((z = -1 ∧ ∀ u (hu : u < lr.length), u < t + 1 → En.isK lr[u] str nm = false) ∨ ∃ u, ∃ hu : u < lr.length, u < t + 1 ∧ z = u ∧ En.isK lr[u] str nm = true) := fun h => Lib.hid (by
              rcases HZ.out with ⟨h1, h2⟩ | ⟨u, hu, h1, h2, h3⟩
              · refine .inl ⟨h1, fun u hu hut => ?_⟩
                rcases (show u < t ∨ u = t by omega) with hh | hh
                · exact h2 u hu hh
                · subst hh; exact h
              · exact .inr ⟨u, hu, by omega, h2, h3⟩)
            have HH := Lib.hid hHit
            have HM := Lib.hid hMiss
            clear hHit hMiss HZ
            generalize lr[t] = x at *
            obtain ⟨rp, rc, rx, rd, rA, rdc⟩ := x
            simp only [En.Run.cells] at r0 r1
            have f1 := (hbw.cell (p := ⟨pr, 0, none⟩) lr2).trans (kr.cell 0)
            have f2 := (hbw.cell (p := ⟨pr, 1, none⟩) lr2).trans (kr.cell 1)
            cases h1 : (rp.toList == str.toList)
            · have HF := HM.out (En.isK_f1 h1)
              clear HH HM
              go_upto_region 18 with fail
              go_quiet (fail)
              go_wp2_with fail
              go_roundw
              case rel => exact ⟨t + 1, z, by go_num, by omega, rfl, below_drewN8 hbw _, HF⟩
              case measure => simp [intOf]; omega
            · cases h2 : (rc.toList == nm.toList)
              · have HF := HM.out (En.isK_f2 h2)
                clear HH HM
                go_upto_region 18 with fail
                go_quiet (fail)
                go_wp2_with fail
                go_roundw
                case rel => exact ⟨t + 1, z, by go_num, by omega, rfl, below_drewN8 hbw _, HF⟩
                case measure => simp [intOf]; omega
              · have HF := HH.out (En.isK_t h1 h2)
                clear HH HM
                go_upto_region 18 with fail
                go_quiet (fail)
                go_wp2_with fail
                go_roundw
                case rel => exact ⟨t + 1, t, by go_num, by omega, rfl, below_drewN8 hbw _, HF⟩
                case measure => simp [intOf]; omega
          · obtain rfl : t = lr.length := by omega
            have hes3 := Lib.hid (hes2.out.below hbw)
            have kr3 := kr.below hbw lr2
            have ka3 := ka2.below hbw ka2.lt
            have HZ2 : Hid ((z = -1 ∧ ∀ u (hu : u < lr.length), En.isK lr[u] str nm = false) ∨ ∃ u, ∃ hu : u < lr.length, z = u ∧ En.isK lr[u] str nm = true) := Lib.hid (by
              rcases HZ.out with ⟨h1, h2⟩ | ⟨u, hu, _, h2, h3⟩
              · exact .inl ⟨h1, fun u hu => h2 u hu hu⟩
              · exact .inr ⟨u, hu, h2, h3⟩)
            clear HZ kr ka2 hbw hes2 h37' HRW lr2
            have e3 := ka3.cells
            go_upto_block 4 with fail
            go_cut [7, 14] (fun v7 ok wx => ok = .bool true ∧ ESK w wx bd be bm bn (k + 1) v7)
            case first =>
              have hwl : s.wait.length ≤ 1000 := Nat.le_trans hfi.f3 (by omega)
              have hlel : le.length < 10000 := by
                have e2 := congrArg List.length hes3.out.pr
                simp at e2
                omega
              have HATP : Hid (En.atP str nm (le.map En.Run.pr) = En.atK str nm lr) := Lib.hid (by rw [En.atK_pr, hes3.out.pr])
              go_wp2_with fail
              · refine (DkR.step_any s bm wvm _ hfi.f1 hfi.f2 hes3.out.m).mono ?_
                rintro e w5 ⟨rfl, ha⟩
                obtain ⟨wvm1, hes5, hk5⟩ := hes3.out.onM ha
                have kr5 := kr3.kept hk5 ((Only.fp hes3.out.m).blk kr3 (by decide))
                unfold DkR.V
                have hrd5 : RdI w5 (fun b => ¬ Fp bd wvd b) A5 xl := HRD.out.move hes5.bel.size (fun b _ hlt => hes5.bel.block b hlt) (far_fp hes5.hbd hes5.hd)
                have HSTA := Lib.hid (Start_any w.heap.size be bd wvd v s le ⟨str, nm, X, xl, A5, c5⟩ w5 hes5.d hfi.f1 hfi.f2 hes5.e hes5.bel.size hlel (by dsimp only; omega) hrd5)
                have HES5 := Lib.hid hes5
                have e5 := kr5.cells
                clear ha hk5 hrd5 e3 hes5 kr3 ka3
                cases hdd : dead s
                · have HS1 := Lib.hid (stepS_ok hdd)
                  have HDD := Lib.hid hdd
                  rw [HS1.out] at HES5 ⊢
                  clear hdd
                  dsimp only at HES5 ⊢
                  rcases HZ2.out with ⟨rfl, hnone⟩ | ⟨u, hu, rfl, hfound⟩
                  · have hsp := En.startP_new (s := s) (l := le.map En.Run.pr) (r := ⟨str, nm, X, xl⟩) HDD.out (by show (En.atP str nm (le.map En.Run.pr)).2 = false; rw [HATP.out]; exact En.at_none hnone)
                    have hie : (En.atK str nm lr).1 ≤ lr.length := (En.atK_le str nm lr).1
                    have HSP := Lib.hid hsp
                    have HNO := Lib.hid hnone
                    clear hsp hnone
                    go_wp2_with fail
                    refine HSTA.out.mono ?_
                    intro e w6 hP
                    have hP2 : EnP w.heap.size be bd wvd v (En.startP s (le.map En.Run.pr) ⟨str, nm, X, xl⟩) w5 e w6 := hP
                    rw [HSP.out] at hP2
                    obtain ⟨rfl, wvd6, v6, le6, hem, hk6⟩ := HES5.out.onE hP2
                    clear hP hP2
                    have kr6 := kr5.kept hk6 (by
                      rintro (hx | hx | hx)
                      · exact (Only.fp HES5.out.d).blk kr5 (by decide) hx
                      · exact Blk.ne_ kr5 HES5.out.e.blk (by decide) hx
                      · have := HPR.out.1 _ hx; omega)
                    have e6 := kr6.cells
                    have HEM := Lib.hid hem
                    have hz6 : w.heap.size ≤ w6.heap.size := hem.bel.size
                    have ho6 := hem.row
                    rw [errV_0]
                    clear e5 kr5 hk6 hem
                    go_wp2_with fail
                    refine (same_yes 0 (by omega) _).mono ?_
                    rintro e w7 ⟨rfl, rfl⟩
                    go_wp2_with (at_builtin; refine wpList_app _ runT rfl (.tmp 106) (.tmp 108) rfl w.heap.size (.slice A7 lr.length c7) lr.length (En.flatR lr) rfl (by exact ho6.alloc _) ⟨w6.heap.size, 0, none⟩ 1 1 [.string str, .string nm, .int .u64 X, .slice A5 xl.length c5] rfl rfl (news_new w6 _ _) (by simp [Value.oneCell']) (by omega) (by unfold maxLen; omega) (by omega) (by simp; omega) ?_; intro g c8 w8 hown8 hgr8 hat8 hlt8)
                    have hown9 : w8.ownsRow w.heap.size 117 4 (.slice (some ⟨g, 0, none⟩) (lr.length + 1) c8) (lr.length + 1) (En.flatR (En.insR lr lr.length ⟨str, nm, X, xl, A5, c5⟩)) := by
                      rw [En.insR_end]
                      simpa [En.flatR, En.Run.cells] using hown8
                    have HO9 := Lib.hid hown9
                    have HG8 := Lib.hid hgr8
                    have HT8 := Lib.hid hat8
                    clear hown8 hgr8 hat8 hown9 ho6 e6
                    have HEXIT : Hid (∀ (wF : World) (t : Nat) (ht : t ≤ lr.length), wF.ownsRow w.heap.size 117 4 (.slice (some ⟨g, 0, none⟩) (lr.length + 1) c8) (lr.length + 1) (En.flatR (En.insR lr t ⟨str, nm, X, xl, A5, c5⟩)) → Kept (fun q => q = g) w8 wF → (∀ j (hj : j < lr.length), t ≤ j → En.ltR ⟨str, nm, X, xl, A5, c5⟩ lr[j] = true) → (∀ h0 : 0 < t, En.ltR ⟨str, nm, X, xl, A5, c5⟩ (lr[t - 1]'(by omega)) = false) → ESK w wF bd be bm bn (k + 1) (.slice (some ⟨g, 0, none⟩) (lr.length + 1) c8)) := Lib.hid (by
                      intro wF t ht hrow hkr hlt2 h2
                      have hlen := En.insR_len lr t ⟨str, nm, X, xl, A5, c5⟩ ht
                      have hat := En.at_down hsrt ⟨str, nm, X, xl, A5, c5⟩ ht HNO.out hlt2 h2
                      have hE := HEM.out
                      have hp : (le.map En.Run.pr).take (En.atP str nm (le.map En.Run.pr)).1 ++ (⟨str, nm, X, xl⟩ : En.PR) :: (le.map En.Run.pr).drop (En.atP str nm (le.map En.Run.pr)).1 = (En.insR lr t ⟨str, nm, X, xl, A5, c5⟩).map En.Run.pr := by
                        rw [HATP.out, hat, HES5.out.pr]
                        simp [En.insR, En.Run.pr]
                      have hk : Kept (fun q => (Value.slice A7 lr.length c7).ownBlock = some q) w6 wF := (((Kept.refl _ _).alloc _).grown HG8.out (fun q hq => .inl hq)).then_ hkr (fun q hq he => by
                        rcases HT8.out with h | h
                        · rw [he]; exact h
                        · simp at h; omega)
                      have hdv : ∀ x ∈ En.insR lr t ⟨str, nm, X, xl, A5, c5⟩, RdI w (fun _ => True) x.dA x.devs ∧ x.devs.length ≤ 30 := by
                        intro x hx
                        rcases List.mem_append.1 hx with hx | hx
                        · exact hE.devs x (List.mem_of_mem_take hx)
                        · rcases List.mem_cons.1 hx with rfl | hx
                          · exact ⟨HRD.out.move (Nat.le_refl _) (fun _ _ _ => rfl) (fun _ _ => trivial), hll⟩
                          · exact hE.devs x (List.mem_of_mem_drop hx)
                      have hap : ∀ q, v6.ownBlock = some q → (Value.slice (some ⟨g, 0, none⟩) (lr.length + 1) c8).ownBlock ≠ some q := by
                        intro q hq he
                        have hgq : g = q := by simpa [Value.ownBlock] using he
                        rcases HT8.out with h | h
                        · exact hE.apart q hq (by rw [← hgq]; exact h)
                        · have := (hE.e.row.lt q hq).2
                          simp at h
                          omega
                      have hES := hE.toES hk (v7' := .slice (some ⟨g, 0, none⟩) (lr.length + 1) c8) (lr' := En.insR lr t ⟨str, nm, X, xl, A5, c5⟩) (by rw [hlen]; exact hrow) hp hdv hap
                      refine ⟨stepOk s, En.insR lr t ⟨str, nm, X, xl, A5, c5⟩, some ⟨g, 0, none⟩, c8, _, _, _, _, by rw [hlen], by rw [hlen]; exact hES, (hfi.stepOk).more (by omega), hsrt.ins ⟨str, nm, X, xl, A5, c5⟩ ht HNO.out hlt2 h2, by omega⟩)
                    go_loopw [16] (fun kk wi => ∃ t : Nat, kk = .int .i64 t ∧ t ≤ lr.length ∧ Hid (wi.ownsRow w.heap.size 117 4 (.slice (some ⟨g, 0, none⟩) (lr.length + 1) c8) (lr.length + 1) (En.flatR (En.insR lr t ⟨str, nm, X, xl, A5, c5⟩))) ∧ Kept (fun q => q = g) w8 wi ∧ Hid (∀ j (hj : j < lr.length), t ≤ j → En.ltR ⟨str, nm, X, xl, A5, c5⟩ lr[j] = true)) (fun kk _ => (intOf kk).toNat)
                    case atStart => exact ⟨lr.length, rfl, Nat.le_refl _, HO9, Kept.refl _ _, Lib.hid (fun j hj h => by omega)⟩
                    case round =>
                      obtain ⟨t, rfl, ht, HOR, hkr, HLT⟩ := hrel
                      cases t with
                      | zero =>
                        have h00 : (((0 : Nat) : Int)) = 0 := rfl
                        rw [h00]
                        clear h00
                        go_upto_region 32 with fail
                        refine wp_region_quiet_lit (by as_aux_lemma => kernel_rfl) (by as_aux_lemma => kernel_rfl) ?_
                        repeat (go_big_quiet_step (fail))
                        refine wpQuiet_nil ?_
                        intro _ hw'
                        obtain ⟨nq, hw''⟩ := hw'
                        subst hw''
                        go_wp2_with fail
                        go_meet
                        exact ⟨rfl, HEXIT.out _ 0 (by omega) HOR.out (hkr.drewN _) HLT.out (fun h => by omega)⟩
                      | succ u =>
                        obtain ⟨x, hx⟩ : ∃ x, lr[u]? = some x := ⟨lr[u]'(by omega), List.getElem?_eq_getElem (by omega)⟩
                        have HIA := Lib.hid (En.insR_at lr (u + 1) ⟨str, nm, X, xl, A5, c5⟩ ht)
                        have HIB : Hid ((En.insR lr (u + 1) ⟨str, nm, X, xl, A5, c5⟩)[u]? = some x) := Lib.hid (by
                          have := En.insR_below lr (u + 1) ⟨str, nm, X, xl, A5, c5⟩ ht (by omega)
                          simp only [Nat.add_sub_cancel] at this
                          rw [this, ← hx, List.getElem?_eq_getElem (by omega)])
                        have HX := Lib.hid hx
                        obtain ⟨c10, c11, -, -⟩ := row4 HOR.out HIA.out
                        obtain ⟨c00, c01, -, -⟩ := row4 HOR.out HIB.out
                        clear hx
                        obtain ⟨xp', xc, xx, xd, xA, xdc⟩ := x
                        dsimp only at c10 c11 c00 c01
                        have hu1 : ((u : Int) + 1) - 1 = (u : Int) := by omega
                        cases h1 : Op.bytesLess str.toList xp'.toList
                        · cases h2 : (str.toList == xp'.toList)
                          · go_upto_region 32 with fail
                            refine wp_region_quiet_lit (by as_aux_lemma => kernel_rfl) (by as_aux_lemma => kernel_rfl) ?_
                            repeat (go_big_quiet_step (fail))
                            refine wpQuiet_nil ?_
                            intro _ hw'
                            obtain ⟨nq, hw''⟩ := hw'
                            subst hw''
                            go_wp2_with fail
                            go_meet
                            exact ⟨rfl, HEXIT.out _ (u + 1) ht HOR.out (hkr.drewN _) HLT.out (fun _ => by
                              have := HX.out
                              rw [List.getElem?_eq_getElem (by omega)] at this
                              simp only [Nat.add_sub_cancel]
                              rw [Option.some.inj this]
                              simp [En.ltR, h1, h2])⟩
                          · cases h3 : Op.bytesLess nm.toList xc.toList
                            · go_upto_region 32 with fail
                              refine wp_region_quiet_lit (by as_aux_lemma => kernel_rfl) (by as_aux_lemma => kernel_rfl) ?_
                              repeat (go_big_quiet_step (fail))
                              refine wpQuiet_nil ?_
                              intro _ hw'
                              obtain ⟨nq, hw''⟩ := hw'
                              subst hw''
                              go_wp2_with fail
                              go_meet
                              exact ⟨rfl, HEXIT.out _ (u + 1) ht HOR.out (hkr.drewN _) HLT.out (fun _ => by
                                have := HX.out
                                rw [List.getElem?_eq_getElem (by omega)] at this
                                simp only [Nat.add_sub_cancel]
                                rw [Option.some.inj this]
                                simp [En.ltR, h1, h2, h3])⟩
                            · have HLT2 : Hid (∀ j (hj : j < lr.length), u ≤ j → En.ltR ⟨str, nm, X, xl, A5, c5⟩ lr[j] = true) := Lib.hid (fun j hj huj => by
                                rcases (show j = u ∨ u + 1 ≤ j by omega) with rfl | h
                                · have := HX.out
                                  rw [List.getElem?_eq_getElem hj] at this
                                  rw [Option.some.inj this]
                                  simp [En.ltR, h1, h2, h3]
                                · exact HLT.out j hj h)
                              go_upto_region 32 with fail
                              refine wp_region_quiet_lit (by as_aux_lemma => kernel_rfl) (by as_aux_lemma => kernel_rfl) ?_
                              repeat (go_big_quiet_step (fail))
                              refine wpQuiet_nil ?_
                              intro _ hw'
                              obtain ⟨nq, hw''⟩ := hw'
                              subst hw''
                              go_upto_region 34 with fail
                              have hI : wr.drew.ownsRow w.heap.size 117 4 (.slice (some ⟨g, 0, none⟩) (lr.length + 1) c8) (lr.length + 1) (En.flatR (En.insR lr (u + 1) ⟨str, nm, X, xl, A5, c5⟩)) := HOR.out.drew
                              clear c10 c11 c00 c01
                              refine Flo.regionC [15, 16, 17] 16 [(0, some true), (1, some true), (2, some false), (3, some false), (4, some false), (5, some true), (6, some true), (7, some true), (8, some true), (9, some true), (10, some true), (11, some true), (12, some true), (13, some true), (14, some true), (15, none)] (fun v' => v'.ownsRow w.heap.size 117 4 (.slice (some ⟨g, 0, none⟩) (lr.length + 1) c8) (lr.length + 1) (En.flatR (En.insR lr (u + 1) ⟨str, nm, X, xl, A5, c5⟩))) (by as_aux_lemma => kernel_rfl) (by as_aux_lemma => kernel_rfl) rfl ?_
                              simp only [List.drop_succ_cons, List.drop_zero]
                              have HI1 := HIA.out
                              have HI0 := HIB.out
                              iterate 2 (apply Flo.opf rfl (hI := hI); (· intro v' hv' K hK; obtain ⟨a0, a1, a2, a3⟩ := row4 hv' HI1; obtain ⟨b0, b1, b2, b3⟩ := row4 hv' HI0; clear hv'; go_wp2_with fail; exact hK); (· rfl))
                              iterate 3 (apply Flo.opp rfl (hI := hI); (· intro v' K hK; go_wp2_with fail; exact hK); (· rfl))
                              iterate 10 (apply Flo.opf rfl (hI := hI); (· intro v' hv' K hK; obtain ⟨a0, a1, a2, a3⟩ := row4 hv' HI1; obtain ⟨b0, b1, b2, b3⟩ := row4 hv' HI0; clear hv'; go_wp2_with fail; exact hK); (· rfl))
                              refine Flo.ops_ rfl fun K hK => ?_
                              have HI1 := HIA.out
                              have HI0 := HIB.out
                              obtain ⟨a0, a1, a2, a3⟩ := row4 HOR.out HI1
                              obtain ⟨b0, b1, b2, b3⟩ := row4 HOR.out HI0
                              have zf := HOR.out.frozenAt
                              dsimp only at a0 a1 a2 a3 b0 b1 b2 b3
                              clear HI1 HI0 hI
                              go_wp2_with fail
                              refine hK _ _ (fun h => absurd (by decide) h) ?_
                              clear hK
                              refine Flo.tailC fun K hK => ?_
                              go_wp2_with fail
                              go_roundw
                              case rel =>
                                exact ⟨u, rfl, by omega, Lib.hid (swap_own (own_drewN HOR.out _) ht HX.out), kept_set4 (kept_set4 (hkr.drewN _) _ _ _ _ _ _ _ _) _ _ _ _ _ _ _ _, HLT2⟩
                              case measure => simp [intOf]
                        · have HLT2 : Hid (∀ j (hj : j < lr.length), u ≤ j → En.ltR ⟨str, nm, X, xl, A5, c5⟩ lr[j] = true) := Lib.hid (fun j hj huj => by
                            rcases (show j = u ∨ u + 1 ≤ j by omega) with rfl | h
                            · have := HX.out
                              rw [List.getElem?_eq_getElem hj] at this
                              rw [Option.some.inj this]
                              simp [En.ltR, h1]
                            · exact HLT.out j hj h)
                          go_upto_region 32 with fail
                          refine wp_region_quiet_lit (by as_aux_lemma => kernel_rfl) (by as_aux_lemma => kernel_rfl) ?_
                          repeat (go_big_quiet_step (fail))
                          refine wpQuiet_nil ?_
                          intro _ hw'
                          obtain ⟨nq, hw''⟩ := hw'
                          subst hw''
                          go_upto_region 34 with fail
                          have hI : wr.drew.ownsRow w.heap.size 117 4 (.slice (some ⟨g, 0, none⟩) (lr.length + 1) c8) (lr.length + 1) (En.flatR (En.insR lr (u + 1) ⟨str, nm, X, xl, A5, c5⟩)) := HOR.out.drew
                          clear c10 c11 c00 c01
                          refine Flo.regionC [15, 16, 17] 16 [(0, some true), (1, some true), (2, some false), (3, some false), (4, some false), (5, some true), (6, some true), (7, some true), (8, some true), (9, some true), (10, some true), (11, some true), (12, some true), (13, some true), (14, some true), (15, none)] (fun v' => v'.ownsRow w.heap.size 117 4 (.slice (some ⟨g, 0, none⟩) (lr.length + 1) c8) (lr.length + 1) (En.flatR (En.insR lr (u + 1) ⟨str, nm, X, xl, A5, c5⟩))) (by as_aux_lemma => kernel_rfl) (by as_aux_lemma => kernel_rfl) rfl ?_
                          simp only [List.drop_succ_cons, List.drop_zero]
                          have HI1 := HIA.out
                          have HI0 := HIB.out
                          iterate 2 (apply Flo.opf rfl (hI := hI); (· intro v' hv' K hK; obtain ⟨a0, a1, a2, a3⟩ := row4 hv' HI1; obtain ⟨b0, b1, b2, b3⟩ := row4 hv' HI0; clear hv'; go_wp2_with fail; exact hK); (· rfl))
                          iterate 3 (apply Flo.opp rfl (hI := hI); (· intro v' K hK; go_wp2_with fail; exact hK); (· rfl))
                          iterate 10 (apply Flo.opf rfl (hI := hI); (· intro v' hv' K hK; obtain ⟨a0, a1, a2, a3⟩ := row4 hv' HI1; obtain ⟨b0, b1, b2, b3⟩ := row4 hv' HI0; clear hv'; go_wp2_with fail; exact hK); (· rfl))
                          refine Flo.ops_ rfl fun K hK => ?_
                          have HI1 := HIA.out
                          have HI0 := HIB.out
                          obtain ⟨a0, a1, a2, a3⟩ := row4 HOR.out HI1
                          obtain ⟨b0, b1, b2, b3⟩ := row4 HOR.out HI0
                          have zf := HOR.out.frozenAt
                          dsimp only at a0 a1 a2 a3 b0 b1 b2 b3
                          clear HI1 HI0 hI
                          go_wp2_with fail
                          refine hK _ _ (fun h => absurd (by decide) h) ?_
                          clear hK
                          refine Flo.tailC fun K hK => ?_
                          go_wp2_with fail
                          go_roundw
                          case rel =>
                            exact ⟨u, rfl, by omega, Lib.hid (swap_own (own_drewN HOR.out _) ht HX.out), kept_set4 (kept_set4 (hkr.drewN _) _ _ _ _ _ _ _ _) _ _ _ _ _ _ _ _, HLT2⟩
                          case measure => simp [intOf]
                  · have haf := En.at_found hsrt hu hfound
                    have hsp := En.startP_is (s := s) (l := le.map En.Run.pr) (r := ⟨str, nm, X, xl⟩) HDD.out (by show (En.atP str nm (le.map En.Run.pr)).2 = true; rw [HATP.out, haf])
                    have HSP := Lib.hid hsp
                    clear haf hsp hfound
                    go_wp2_with fail
                    refine HSTA.out.mono ?_
                    intro e w6 hP
                    have hP2 : EnP w.heap.size be bd wvd v (En.startP s (le.map En.Run.pr) ⟨str, nm, X, xl⟩) w5 e w6 := hP
                    rw [HSP.out] at hP2
                    obtain ⟨rfl, wvd6, v6, le6, hem, hk6⟩ := HES5.out.onE hP2
                    clear hP hP2
                    rw [errV_pos 5 (by omega)]
                    go_wp2_with fail
                    refine (same_yes 5 (by omega) _).mono ?_
                    rintro e w7 ⟨rfl, rfl⟩
                    go_wp2_with fail
                    go_meet
                    exact ⟨rfl, _, lr, A7, c7, _, _, _, _, rfl, hem.es HES5.out.pr, (hfi.stepOk).more (by omega), hsrt, by omega⟩
                · have HS1 := Lib.hid (stepS_dead hdd)
                  rw [HS1.out] at HES5 ⊢
                  have hsp := En.startP_dead (l := le.map En.Run.pr) (r := ⟨str, nm, X, xl⟩) hdd
                  clear hdd
                  dsimp only at HES5 ⊢
                  have HSP := Lib.hid hsp
                  clear hsp HZ2
                  go_wp2_with fail
                  refine HSTA.out.mono ?_
                  intro e w6 hP
                  have hP2 : EnP w.heap.size be bd wvd v (En.startP s (le.map En.Run.pr) ⟨str, nm, X, xl⟩) w5 e w6 := hP
                  rw [HSP.out] at hP2
                  obtain ⟨rfl, wvd6, v6, le6, hem, hk6⟩ := HES5.out.onE hP2
                  clear hP hP2
                  rw [errV_pos 11 (by omega)]
                  go_wp2_with fail
                  refine (same_yes 11 (by omega) _).mono ?_
                  rintro e w7 ⟨rfl, rfl⟩
                  go_wp2_with fail
                  go_meet
                  exact ⟨rfl, _, lr, A7, c7, _, _, _, _, rfl, hem.es HES5.out.pr, (hfi.stepDead).more (by omega), hsrt, by omega⟩
              · as_aux_lemma =>
                  refine (DkR.step_any s bm wvm _ hfi.f1 hfi.f2 hes3.out.m).mono ?_
                  rintro e w5 ⟨rfl, ha⟩
                  obtain ⟨wvm1, hes5, hk5⟩ := hes3.out.onM ha
                  have kr5 := kr3.kept hk5 ((Only.fp hes3.out.m).blk kr3 (by decide))
                  unfold DkR.V
                  have HSTO := Lib.hid (Stop_any w.heap.size be bd wvd v s le str nm w5 hes5.d hfi.f1 hfi.f2 hes5.e)
                  have HES5 := Lib.hid hes5
                  have e5 := kr5.cells
                  clear ha hk5 e3 hes5 kr3 ka3
                  cases hdd : dead s
                  · have HS1 := Lib.hid (stepS_ok hdd)
                    have HDD := Lib.hid hdd
                    rw [HS1.out] at HES5 ⊢
                    clear hdd
                    dsimp only at HES5 ⊢
                    rcases HZ2.out with ⟨rfl, hnone⟩ | ⟨u, hu, rfl, hfound⟩
                    · have HSP : Hid (En.stopP s (le.map En.Run.pr) str nm = (6, stepOk s, le.map En.Run.pr)) := Lib.hid (En.stopP_none HDD.out (by rw [HATP.out]; exact En.at_none hnone))
                      clear hnone
                      go_wp2_with fail
                      refine HSTO.out.mono ?_
                      intro e w6 hP
                      have hP2 : EnP w.heap.size be bd wvd v (En.stopP s (le.map En.Run.pr) str nm) w5 e w6 := hP
                      rw [HSP.out] at hP2
                      obtain ⟨rfl, wvd6, v6, le6, hem, hk6⟩ := HES5.out.onE hP2
                      clear hP hP2
                      rw [errV_pos 6 (by omega)]
                      go_wp2_with fail
                      refine (same_yes 6 (by omega) _).mono ?_
                      rintro e w7 ⟨rfl, rfl⟩
                      go_wp2_with fail
                      go_meet
                      exact ⟨rfl, _, lr, A7, c7, _, _, _, _, rfl, hem.es HES5.out.pr, (hfi.stepOk).more (by omega), hsrt, by omega⟩
                    · have HSP : Hid (En.stopP s (le.map En.Run.pr) str nm = (0, stepOk s, (lr.map En.Run.pr).take u ++ (lr.map En.Run.pr).drop (u + 1))) := Lib.hid (by
                        have haf := En.at_found hsrt hu hfound
                        rw [En.stopP_is HDD.out (by rw [HATP.out, haf]), HATP.out, haf, HES5.out.pr])
                      clear hfound
                      go_wp2_with fail
                      refine HSTO.out.mono ?_
                      intro e w6 hP
                      have hP2 : EnP w.heap.size be bd wvd v (En.stopP s (le.map En.Run.pr) str nm) w5 e w6 := hP
                      rw [HSP.out] at hP2
                      obtain ⟨rfl, wvd6, v6, le6, hem, hk6⟩ := HES5.out.onE hP2
                      clear hP hP2
                      rw [errV_0]
                      go_wp2_with fail
                      refine (same_yes 0 (by omega) _).mono ?_
                      rintro e w7 ⟨rfl, rfl⟩
                      obtain ⟨g, rfl⟩ : ∃ g, A7 = some ⟨g, 0, none⟩ := by
                        obtain ⟨A', c', he, _, _, h3⟩ := own_form hem.row
                        simp only [Value.slice.injEq, true_and] at he
                        obtain ⟨g, hg, _⟩ := h3 (by omega)
                        exact ⟨g, by rw [he.1, hg]⟩
                      have HEM := Lib.hid hem
                      have HT := take_news hem.row rfl u hu
                      have HD := fun (w9 : World) (h9 : Below w6.heap.size w6 w9) => drop_news (own_below hem.row h9) rfl u hu
                      have HDD2 := Lib.hid HD
                      obtain ⟨i0, hi0, hz0, hz1, hz2⟩ := info_parts runT.hi
                      have HI0 := Lib.hid hi0
                      have HZ0 := Lib.hid hz0
                      have HZ1 := Lib.hid hz1
                      have HZ3 := Lib.hid hz2
                      have hl1 : (En.flatR (lr.take u)).length = u * 4 := by rw [En.flatR_len]; simp; omega
                      have hl2 : (En.flatR (lr.drop (u + 1))).length = (lr.length - (u + 1)) * 4 := by rw [En.flatR_len]; simp
                      have HL1 := Lib.hid hl1
                      have HL2 := Lib.hid hl2
                      clear hem hk6 HD hi0 hz0 hz1 hz2 hl1 hl2 e5 kr5 HSTO HES5 HATP HS1 HZ2 HRD HN5 HPR
                      go_wp2_with (at_builtin; refine wpList_append_own _ rfl (.tmp 195) (.tmp 198) 114 rfl w6.heap.size 117 i0 zRun 4 _ Try.underlying114 HI0.out HZ0.out HZ1.out HZ3.out rfl (by decide) (.slice none 0 0) 0 [] rfl (World.ownsRow_nil _ _ _ _) ⟨g, 0, none⟩ u c7 (En.flatR (lr.take u)) rfl ?c1 ?c2 ?c3 ?c4 ?c5 ?c6 ?_)
                      case c1 => exact HL1.out
                      case c2 => exact HT.out
                      case c3 => exact En.flatR_one _
                      case c4 => unfold maxLen; omega
                      case c5 => omega
                      case c6 => exact Nat.le_refl _
                      intro v18 w8 hown8 hgr8 _
                      have hb8 : Below w6.heap.size w6 w8 := (Below.refl _ _).grown hgr8 (Nat.le_refl _) (fun k hk => by cases hk)
                      have HO8 := Lib.hid hown8
                      have HB8 := Lib.hid hb8
                      obtain ⟨A, hA, HN⟩ := HDD2.out w8 hb8
                      clear hown8 hgr8 hb8
                      go_wp2_with (at_builtin; refine wpList_append_own _ rfl (.tmp 200) (.tmp 204) 114 rfl w6.heap.size 117 i0 zRun 4 _ Try.underlying114 HI0.out HZ0.out HZ1.out HZ3.out rfl (by decide) v18 u (En.flatR (lr.take u)) rfl HO8.out A (lr.length - (u + 1)) _ (En.flatR (lr.drop (u + 1))) rfl ?d1 ?d2 ?d3 ?d4 ?d5 ?d6 ?_)
                      case d1 => exact HL2.out
                      case d2 => exact HN.out
                      case d3 => exact En.flatR_one _
                      case d4 => unfold maxLen; omega
                      case d5 => omega
                      case d6 => exact HB8.out.size
                      intro v9 w9 hown9 hgr9 _
                      have HO9 : Hid (w9.ownsRow w6.heap.size 117 4 v9 (lr.length - 1) (En.flatR (lr.take u ++ lr.drop (u + 1)))) := Lib.hid (by
                        rw [show u + (lr.length - (u + 1)) = lr.length - 1 by omega] at hown9
                        simpa [En.flatR] using hown9)
                      have HB9 : Hid (Below w6.heap.size w6 w9) := Lib.hid (HB8.out.grown hgr9 HB8.out.size (fun k hk => (HO8.out.lt k hk).1))
                      clear hown9 hgr9 hA
                      go_wp2_with fail
                      go_meet
                      exact ⟨rfl, ESK.stop HEM.out hu HB9.out v9 HO9.out rfl ((hfi.stepOk).more (by omega)) hsrt (by omega)⟩
                  · have HS1 := Lib.hid (stepS_dead hdd)
                    rw [HS1.out] at HES5 ⊢
                    have HSP : Hid (En.stopP s (le.map En.Run.pr) str nm = (11, stepDead s, le.map En.Run.pr)) := Lib.hid (En.stopP_dead hdd)
                    clear hdd
                    dsimp only at HES5 ⊢
                    clear HZ2
                    go_wp2_with fail
                    refine HSTO.out.mono ?_
                    intro e w6 hP
                    have hP2 : EnP w.heap.size be bd wvd v (En.stopP s (le.map En.Run.pr) str nm) w5 e w6 := hP
                    rw [HSP.out] at hP2
                    obtain ⟨rfl, wvd6, v6, le6, hem, hk6⟩ := HES5.out.onE hP2
                    clear hP hP2
                    rw [errV_pos 11 (by omega)]
                    go_wp2_with fail
                    refine (same_yes 11 (by omega) _).mono ?_
                    rintro e w7 ⟨rfl, rfl⟩
                    go_wp2_with fail
                    go_meet
                    exact ⟨rfl, _, lr, A7, c7, _, _, _, _, rfl, hem.es HES5.out.pr, (hfi.stepDead).more (by omega), hsrt, by omega⟩
              · as_aux_lemma =>
                  refine (DkP.arm_any s xa bd wvd _ hes3.out.d).mono ?_
                  rintro e w5 ⟨rfl, ha⟩
                  obtain ⟨wvd1, hes5, hk5⟩ := hes3.out.onD ha
                  have hx5 := (ka3.kept hk5 ((Only.fp hes3.out.d).blk ka3 (by decide))).cell 2
                  have hmc := hes5.m.blk.cell 9
                  have hmf := hes5.m.blk.frozen 9
                  unfold Dk.cells at hmc
                  go_wp2_with fail
                  go_meet
                  have hst : After RT RE bm wvm (armS s xa) w5 (w5.setCell ⟨bm, 9, none⟩ (.int .i64 (max xa (-1)))) := hes5.m.step (hes5.m.blk.set_ 9 _) rfl ((Kept.refl _ _).set1 _) (by decide)
                  obtain ⟨wvm1, hes6, _⟩ := hes5.onM hst
                  exact ⟨rfl, _, lr, A7, c7, _, _, _, _, rfl, hes6, hfi.armS hr4.2, hsrt, by omega⟩
              · as_aux_lemma =>
                  refine (DkP.restart_all s 0 0 bd wvd _ hwl hes3.out.d hfi.f4).mono ?_
                  rintro e w5 ⟨rfl, ha⟩
                  obtain ⟨wvd1, hes5, hk5⟩ := hes3.out.onD ha
                  go_wp2_with fail
                  refine (DkR.restart_all s 0 0 bm wvm _ hwl hes5.m hfi.f4).mono ?_
                  rintro e w6 ⟨rfl, hb⟩
                  obtain ⟨wvm1, hes6, _⟩ := hes5.onM hb
                  go_wp2_with fail
                  go_meet
                  exact ⟨rfl, _, lr, A7, c7, _, _, _, _, rfl, hes6, Fine.restartS _ _, hsrt, by omega⟩
            case rest =>
              as_aux_lemma =>
                clear e3 kr3 ka3 hes3 HZ2 HPR HRD HN5
                obtain ⟨rfl, s', lr', A7', c7', wvd', wvm', v', le', rfl, hes', hfi', hsrt', hlk'⟩ := hcut
                have HLI := Lib.hid (List_any w.heap.size be bd v' le' _ hes'.e hes'.dl)
                have HES := Lib.hid hes'
                clear hes'
                go_wp2_with fail
                refine HLI.out.mono ?_
                rintro e w7 ⟨A, c, l2, rfl, hp2, hown, hdv, hb7⟩
                have h1 := RowR.own hown (fun r hr => RdI.own (hdv r hr))
                have hes7 := HES.out.below hb7
                have h2 := RowR.own hes7.row (fun r hr => ((hes7.devs r hr).1.move hes7.bel.size (fun b _ hlt => hes7.bel.block b hlt) (fun _ h => h)))
                have hn2 : l2.length ≤ 10000 := by
                  have e1 := congrArg List.length hp2
                  have e2 := congrArg List.length hes7.pr
                  simp at e1 e2
                  omega
                have hd2 : ∀ r ∈ l2, r.devs.length ≤ 1000000 := by
                  intro x hx
                  have hm : x.pr ∈ lr'.map En.Run.pr := by rw [← hes7.pr, ← hp2]; exact List.mem_map_of_mem hx
                  obtain ⟨y, hy, he⟩ := List.mem_map.1 hm
                  have h1 := (hes7.devs y hy).2
                  have h2 : y.devs = x.devs := congrArg En.PR.devs he
                  rw [← h2]
                  omega
                have HSR := Lib.hid (SameRuns_any A A7' c c7' l2 lr' w7 hn2 hd2 h1 h2 (hp2.trans hes7.pr))
                have HES7 := Lib.hid hes7
                clear hes7 h1 h2 hp2 hown hdv hn2 hd2 hb7 HLI HES
                go_wp2_with fail
                refine HSR.out.mono ?_
                rintro e w8 ⟨rfl, hb8⟩
                go_wp2_with fail
                go_roundw
                case rel => exact ⟨k + 1, by go_num, by omega, s', lr', A7', c7', _, _, _, _, rfl, HES7.out.below hb8, hfi', hsrt', hlk'⟩
                case measure => simp [intOf]; omega
      · obtain rfl : k = l.length := by omega
        go_wp2_with fail
        go_ret
        exact ⟨rfl, hbl⟩
end
end Go.Proofs.Yticmfflnenoplaa
