/- hints.better, hints.list: their walks. -/
import Derived.Test.YticmfflnenoplabHintsC
import Derived.Test.YticmfflnenoplabMergeA
import Derived.Test.YticmfflnenoplabSl
namespace Go.Proofs.Yticmfflnenoplab
open Go.RowKit Mk

def RHint (cs : List Value) (h : Hint) : Prop := cs = h.cells ∧ h.mask < 256

section
attribute [local irreducible] nodes
set_option maxHeartbeats 2000000 in
theorem better_any (a b : Hint) (ha : a.mask < 256) (hb : b.mask < 256) (w : World) : Calls Try.prog 49 #[a.val, b.val] w (RetBB (better a b) w) := by
  have hN := fun (m : Nat) (hm : m < 256) (W : World) => nodes_any m hm W
  have HN := Lib.hid hN
  clear hN
  obtain ⟨am, ag⟩ := a
  obtain ⟨bm, bg⟩ := b
  unfold Hint.val
  dsimp only at ha hb ⊢
  have hbel : Below w.heap.size w ((w.alloc (.cells #[.int .u8 am, .bool ag] 25)).alloc (.cells #[.int .u8 bm, .bool bg] 25)) := ((Below.refl _ _).alloc (Nat.le_refl _) _).alloc (by simp) _
  by_cases hg : ag = bg
  · subst hg
    have l1 := nodes_le am
    have l2 := nodes_le bm
    by_cases hn : nodes am = nodes bm
    · have hq : better ⟨am, ag⟩ ⟨bm, ag⟩ = decide (am < bm) := by simp [better, hn]
      rw [hq]
      clear hq
      go_enter Try.func49, Try.ntmps49
      go_upto_region 3 with fail
      have k1 := (Blk.new w 25 #[.int .u8 am, .bool ag]).alloc (.cells #[.int .u8 bm, .bool ag] 25)
      have k2 := Blk.new (w.alloc (.cells #[.int .u8 am, .bool ag] 25)) 25 #[.int .u8 bm, .bool ag]
      simp only [World.size_alloc] at k2
      generalize (w.alloc (.cells #[.int .u8 am, .bool ag] 25)).alloc (.cells #[.int .u8 bm, .bool ag] 25) = wr at *
      have hI : Below wr.heap.size wr wr.drew := (Below.refl _ _).drew
      have e1 := k1.cells
      have e2 := k2.cells
      have q1 := k1.lt
      have q2 := k2.lt
      refine Flo.region 6 [(0, true), (1, true), (3, true), (4, true), (2, false), (5, false)] (fun v => Below wr.heap.size wr v) (by kernel_rfl) (by kernel_rfl) rfl hI ?_
      simp only [List.drop_succ_cons, List.drop_zero]
      iterate 4 (apply Flo.op rfl (hI := hI); (· intro v hv K hK; obtain ⟨hc, hf⟩ := Flo.bcl hv; go_wp2_with fail; all_goals first | exact Flo.noUndef (by with_reducible assumption) | exact hK); (· rfl))
      refine Flo.seq rfl fun K hK => ?_
      go_wp2_with fail
      refine (HN.out am ha _).mono ?_
      rintro e w1 ⟨rfl, rfl⟩
      go_wp2_with fail
      refine hK _ _ hI ?_
      refine Flo.seq rfl fun K hK => ?_
      go_wp2_with fail
      refine (HN.out bm hb _).mono ?_
      rintro e w1 ⟨rfl, rfl⟩
      go_wp2_with fail
      refine hK _ _ hI ?_
      refine Flo.tail fun K hK => ?_
      clear hn
      go_wp2_with fail
      go_ret
      exact ⟨by simp, hbel.drew⟩
    · have hq : better ⟨am, ag⟩ ⟨bm, ag⟩ = decide (nodes am < nodes bm) := by simp [better, hn]
      rw [hq]
      clear hq
      have hb0 : (((nodes am : Nat) : Int) != ((nodes bm : Nat) : Int)) = true := by rw [bne_iff_ne]; omega
      go_enter Try.func49, Try.ntmps49
      go_upto_region 3 with fail
      have k1 := (Blk.new w 25 #[.int .u8 am, .bool ag]).alloc (.cells #[.int .u8 bm, .bool ag] 25)
      have k2 := Blk.new (w.alloc (.cells #[.int .u8 am, .bool ag] 25)) 25 #[.int .u8 bm, .bool ag]
      simp only [World.size_alloc] at k2
      generalize (w.alloc (.cells #[.int .u8 am, .bool ag] 25)).alloc (.cells #[.int .u8 bm, .bool ag] 25) = wr at *
      have hI : Below wr.heap.size wr wr.drew := (Below.refl _ _).drew
      have e1 := k1.cells
      have e2 := k2.cells
      have q1 := k1.lt
      have q2 := k2.lt
      refine Flo.region 6 [(0, true), (1, true), (3, true), (4, true), (2, false), (5, false)] (fun v => Below wr.heap.size wr v) (by kernel_rfl) (by kernel_rfl) rfl hI ?_
      simp only [List.drop_succ_cons, List.drop_zero]
      iterate 4 (apply Flo.op rfl (hI := hI); (· intro v hv K hK; obtain ⟨hc, hf⟩ := Flo.bcl hv; go_wp2_with fail; all_goals first | exact Flo.noUndef (by with_reducible assumption) | exact hK); (· rfl))
      refine Flo.seq rfl fun K hK => ?_
      go_wp2_with fail
      refine (HN.out am ha _).mono ?_
      rintro e w1 ⟨rfl, rfl⟩
      go_wp2_with fail
      refine hK _ _ hI ?_
      refine Flo.seq rfl fun K hK => ?_
      go_wp2_with fail
      refine (HN.out bm hb _).mono ?_
      rintro e w1 ⟨rfl, rfl⟩
      go_wp2_with fail
      refine hK _ _ hI ?_
      refine Flo.tail fun K hK => ?_
      go_upto_region 4 with fail
      clear hI
      have hI : Below wr.heap.size wr wr.drew.drew := (Below.refl _ _).drew.drew
      refine Flo.region 6 [(0, true), (1, true), (3, true), (4, true), (2, false), (5, false)] (fun v => Below wr.heap.size wr v) (by kernel_rfl) (by kernel_rfl) rfl hI ?_
      simp only [List.drop_succ_cons, List.drop_zero]
      iterate 4 (apply Flo.op rfl (hI := hI); (· intro v hv K hK; obtain ⟨hc, hf⟩ := Flo.bcl hv; go_wp2_with fail; all_goals first | exact Flo.noUndef (by with_reducible assumption) | exact hK); (· rfl))
      refine Flo.seq rfl fun K hK => ?_
      go_wp2_with fail
      refine (HN.out am ha _).mono ?_
      rintro e w1 ⟨rfl, rfl⟩
      go_wp2_with fail
      refine hK _ _ hI ?_
      refine Flo.seq rfl fun K hK => ?_
      go_wp2_with fail
      refine (HN.out bm hb _).mono ?_
      rintro e w1 ⟨rfl, rfl⟩
      go_wp2_with fail
      refine hK _ _ hI ?_
      refine Flo.tail fun K hK => ?_
      go_wp2_with fail
      go_ret
      exact ⟨by simp, hbel.drew.drew⟩
  · have hq : better ⟨am, ag⟩ ⟨bm, bg⟩ = ag := by simp [better, hg]
    rw [hq]
    clear hq
    have hne : (ag = true ∧ bg = false) ∨ (ag = false ∧ bg = true) := by cases ag <;> cases bg <;> simp_all
    clear hg
    rcases hne with ⟨rfl, rfl⟩ | ⟨rfl, rfl⟩
    all_goals
      go_enter Try.func49, Try.ntmps49
      go_wp2_with fail
      go_ret
      exact ⟨rfl, hbel⟩
end

def RetList (l : List Hint) (w : World) (e : Ending) (w' : World) : Prop := ∃ v, e = .returned v ∧ RS w' (fun b => w.heap.size ≤ b ∧ b < w'.heap.size) 2 RHint [v] l ∧ Below w.heap.size w w'
def fil (policy : Int) (l : List Hint) (k : Nat) : List Hint := (l.take k).filter (lets policy)
theorem fil_zero (policy : Int) (l : List Hint) : fil policy l 0 = [] := rfl
theorem fil_full (policy : Int) (l : List Hint) : fil policy l l.length = l.filter (lets policy) := by simp [fil]
theorem fil_le (policy : Int) (l : List Hint) (k : Nat) : (fil policy l k).length ≤ k := by
  unfold fil
  exact Nat.le_trans (List.length_filter_le _ _) (List.length_take_le _ _)
theorem fil_yes (policy : Int) (l : List Hint) (k : Nat) (h : k < l.length) (hl : lets policy l[k] = true) : fil policy l (k + 1) = fil policy l k ++ [l[k]] := by
  simp [fil, List.take_succ_eq_append_getElem h, hl, -List.take_append_getElem]
theorem fil_no (policy : Int) (l : List Hint) (k : Nat) (h : k < l.length) (hl : lets policy l[k] = false) : fil policy l (k + 1) = fil policy l k := by
  simp [fil, List.take_succ_eq_append_getElem h, hl, -List.take_append_getElem]
theorem flatH_app (l : List Hint) (h : Hint) : flatH (l ++ [h]) = flatH l ++ [.int .u8 h.mask, .bool h.good] := by simp [flatH, Hint.cells]
theorem fil_sub (policy : Int) (l : List Hint) (k : Nat) : ∀ x, x ∈ fil policy l k → x ∈ l := fun _ hx => List.mem_of_mem_take (List.mem_filter.1 hx).1
theorem lets_def (policy : Int) (h : Hint) : lets policy h = (policy != 3 || h.good && nodes h.mask == 1) := rfl
theorem flatH_def (l : List Hint) : flatH l = l.flatMap Hint.cells := rfl
theorem flatH_nil : flatH [] = [] := rfl
theorem rs_one (w : World) (S : Nat → Prop) (g : Nat) (n : Nat) (b : Bool) (hn : n < 256) (h : Blk w g 25 #[.int .u8 n, .bool b]) (hS : S g) : RS w S 2 RHint [.slice (some ⟨g, 0, none⟩) 1 1] [⟨n, b⟩] :=
  RS.blk (l := [⟨n, b⟩]) (f := Hint.cells) h (by simp [Hint.cells]) (by simp [maxLen]) (fun _ _ => rfl) (fun x hx => by simp at hx; subst hx; exact ⟨rfl, hn⟩) hS
theorem hints_lt {w : World} {S : Nat → Prop} {cs : List Value} {l : List Hint} (h : RS w S 2 RHint cs l) : ∀ x, x ∈ l → x.mask < 256 := by
  intro x hx
  obtain ⟨i, hi, rfl⟩ := List.mem_iff_getElem.1 hx
  obtain ⟨A, cap, rfl, _, _, h4⟩ := h.form
  obtain ⟨b, off, rfl, _⟩ := h4 i hi
  obtain ⟨_, _, _, _, h6⟩ := h.at_ hi
  exact h6.2

section
attribute [local irreducible] nodes lets fil flatH
set_option maxHeartbeats 2000000 in
theorem list_yes (x : Wi) (hx : x.any = true) (policy : Int) (n : Nat) (hn : n < 256) (A : Option Addr) (m c : Nat) (w : World) :
    Calls Try.prog 31 #[.agg #[.bool x.any, .slice A m c], .int .i64 policy, .int .u8 n] w (RetList (listP x policy n) w) := by
  have hq : listP x policy n = [⟨n, true⟩] := by simp [listP, hx]
  rw [hx, hq]
  clear hq hx
  go_enter Try.func31, Try.ntmps31
  go_wp2_with fail
  go_ret
  exact ⟨_, rfl, rs_one _ _ _ n true hn (by have := Blk.new (w.alloc (.cells #[.bool true, .slice A m c] 32)) 25 #[.int .u8 n, .bool true]; simpa using this) (by simp), ((Below.refl _ _).alloc (Nat.le_refl _) _).alloc (by simp) _⟩

set_option maxHeartbeats 4000000 in
theorem list_no (x : Wi) (hx : x.any = false) (hl : x.hints.length ≤ 16) (policy : Int) (n : Nat) (hn : n < 256) (A : Option Addr) (m c : Nat) (S : Nat → Prop) (w : World) (hS : ∀ b, S b → b < w.heap.size) (h : RS w S 2 RHint [.slice A m c] x.hints) :
    Calls Try.prog 31 #[.agg #[.bool x.any, .slice A m c], .int .i64 policy, .int .u8 n] w (RetList (listP x policy n) w) := by
  have hq : listP x policy n = if fil policy x.hints x.hints.length = [] then [⟨n, false⟩] else fil policy x.hints x.hints.length := by simp [listP, hx, fil_full]
  rw [hx]
  generalize listP x policy n = r at *
  have HQ := Lib.hid hq
  clear hq hx
  have hlt := hints_lt h
  generalize x.hints = l at *
  obtain ⟨A', c', e1, hc1, hc2, h4⟩ := h.form
  simp only [List.cons.injEq, Value.slice.injEq, and_true] at e1
  obtain ⟨rfl, rfl, rfl⟩ := e1
  unfold maxLen at hc2
  have hN := fun (m : Nat) (hm : m < 256) (W : World) => nodes_any m hm W
  have HN := Lib.hid hN
  have h4' := Lib.hid h4
  have HF := Lib.hid hlt
  clear hN h4 hlt
  go_enter Try.func31, Try.ntmps31
  go_upto_region 5 with fail
  go_loopw [7, 18] (fun s i wr => ∃ k : Nat, i = .int .i64 k ∧ k ≤ l.length ∧ Below w.heap.size w wr ∧ wr.ownsRow w.heap.size 25 2 s (fil policy l k).length (flatH (fil policy l k))) (fun _ i _ => l.length - (intOf i).toNat)
  case atStart => exact ⟨0, rfl, by omega, (Below.refl _ _).alloc (Nat.le_refl _) _, by rw [fil_zero, flatH_nil]; exact World.ownsRow_nil _ _ _ _⟩
  case round =>
    obtain ⟨k, rfl, hk, hbel, hown⟩ := hrel
    by_cases hlt : k < l.length
    · obtain ⟨b, off, rfl, hb⟩ := h4'.out k hlt
      obtain ⟨_, cs', e1, e2, e3, e4⟩ := h.at_ hlt
      have r0 := (hbel.cell (p := ⟨b, off + k * 2 + 0, none⟩) (hS b hb)).trans (e2 0 _ (by rw [e3]; rfl))
      have r1 := (hbel.cell (p := ⟨b, off + k * 2 + 1, none⟩) (hS b hb)).trans (e2 1 _ (by rw [e3]; rfl))
      rw [Nat.add_zero] at r0
      have hy := Lib.hid (fil_yes policy l k hlt)
      have hno := Lib.hid (fil_no policy l k hlt)
      generalize l[k] = hh at *
      obtain ⟨hm, hg⟩ := hh
      dsimp only at r0 r1 e4
      clear e1 e2 e3
      go_upto_region 7 with fail
      have kq := Blk.new wr 25 #[.int .u8 hm, .bool hg]
      have hownq := own_below hown (((Below.refl _ _).alloc (Nat.le_refl _) _) : Below wr.heap.size wr (wr.alloc (.cells #[.int .u8 hm, .bool hg] 25)))
      have hbelq := hbel.alloc hbel.size (.cells #[.int .u8 hm, .bool hg] 25)
      generalize wr.alloc (.cells #[.int .u8 hm, .bool hg] 25) = wq at *
      have eq := kq.cells
      have hww := kq.lt
      go_cut [33] (fun s wx => s = .bool (lets policy ⟨hm, hg⟩) ∧ wx = wq)
      case first =>
        by_cases hp : policy = 3
        · have hq : lets policy ⟨hm, hg⟩ = (hg && decide (nodes hm = 1)) := by rw [lets_def]; subst hp; rw [Bool.eq_iff_iff]; simp
          have HL := Lib.hid hq
          subst hp
          clear hq
          cases hg
          · go_wp2_with fail
            go_meet
            exact ⟨by rw [HL.out]; rfl, rfl⟩
          · go_wp2_with fail
            refine (HN.out hm e4 _).mono ?_
            rintro e w1 ⟨rfl, rfl⟩
            go_wp2_with fail
            go_meet
            exact ⟨by rw [HL.out]; congr 1; rw [Bool.eq_iff_iff]; simp; omega, rfl⟩
        · have hq : lets policy ⟨hm, hg⟩ = true := by rw [lets_def]; simp [hp]
          have HL := Lib.hid hq
          have hpp : (policy != 3) = true := by rw [bne_iff_ne]; exact hp
          clear hq
          go_wp2_with fail
          go_meet
          exact ⟨by rw [HL.out], rfl⟩
      case rest =>
        obtain ⟨rfl, rfl⟩ := hcut
        have hfl := fil_le policy l k
        cases hll : lets policy ⟨hm, hg⟩
        · have hno' := Lib.hid (hno.out hll)
          clear hll
          go_wp2_with fail
          go_roundw
          case rel => exact ⟨k + 1, by go_num, by omega, hbelq, by rw [hno'.out]; exact hownq⟩
          case measure => simp [intOf]; omega
        · have hy' := Lib.hid (hy.out hll)
          clear hll
          obtain ⟨A7, c7, rfl, _, _, _⟩ := own_form hownq
          go_wp2_with (at_builtin; refine wpList_app _ hintT rfl (.tmp 34) (.tmp 36) rfl w.heap.size _ _ _ rfl (by exact hownq.alloc _) ⟨wc.heap.size, 0, none⟩ 1 1 [.int .u8 hm, .bool hg] rfl rfl (news_new wc _ _) (by simp [Value.oneCell']) (by omega) (by unfold maxLen; omega) (by omega) (by have := hbelq.size; simp; omega) ?_; intro g cap w4 hown4 hg4 hat4 hlt4)
          go_roundw
          case rel =>
            refine ⟨k + 1, by go_num, by omega, (hbelq.alloc hbelq.size _).grown hg4 (by have := hbelq.size; simp; omega) fun k hk => (hownq.lt k hk).1, ?_⟩
            rw [hy'.out, flatH_app, List.length_append]
            exact hown4
          case measure => simp [intOf]; omega
    · have hke : k = l.length := by omega
      rw [hke] at hown
      have HF' := Lib.hid (fun x (hx : x ∈ fil policy l l.length) => HF.out x (fil_sub policy l l.length x hx))
      generalize fil policy l l.length = fl at *
      obtain ⟨A7, c7, rfl, _, _, _⟩ := own_form hown
      by_cases hz : fl.length = 0
      · have hr := HQ.out
        rw [if_pos (List.length_eq_zero_iff.1 hz)] at hr
        subst hr
        have hz' := Lib.hid hz
        rw [hz]
        clear hz
        go_wp2_with fail
        go_ret
        exact ⟨_, rfl, rs_one _ _ _ n false hn (Blk.new _ _ _) (by simp; exact hbel.size), hbel.alloc hbel.size _⟩
      · have hr := HQ.out
        rw [if_neg (fun h => hz (by rw [h]; rfl))] at hr
        subst hr
        have hz' : 0 < r.length := by omega
        clear hz
        go_wp2_with fail
        go_ret
        exact ⟨.slice A7 r.length c7, rfl, RS.own (f := Hint.cells) (by rw [← flatH_def]; exact hown) (fun _ _ => rfl) (fun x hx => ⟨rfl, HF'.out x hx⟩) fun g hg => hown.lt g hg, hbel⟩
end
end Go.Proofs.Yticmfflnenoplab
