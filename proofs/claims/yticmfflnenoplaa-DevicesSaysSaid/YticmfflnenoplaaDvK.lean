/- Devices: the reference's Take: its walk. No statement is proved here. -/
import Derived.Test.YticmfflnenoplaaDvG
import Derived.Test.YticmfflnenoplaaDvI
import Derived.Test.YticmfflnenoplaaDvJ
namespace Go.Proofs.Yticmfflnenoplaa
open Go.RowKit Dv Mk
def RTakeP (base bp : Nat) (vl : Value) (l : List Dev) (u : List Bool) (k : ByteArray) (many : Int) (on : Nat) (w : World) (e : Ending) (w' : World) : Prop :=
  (takeF k many on l u ≠ 0 ∧ e = .returned (.tuple #[.slice none 0 0, .int .i64 (takeF k many on l u)]) ∧ Below w.heap.size w w') ∨
  (takeF k many on l u = 0 ∧ ∃ A c, e = .returned (.tuple #[.slice A (takeL k many on l u).length c, .int .i64 0]) ∧ w'.ownsRow w.heap.size 3 1 (.slice A (takeL k many on l u).length c) (takeL k many on l u).length (dInts (takeL k many on l u)) ∧
    RIs w' base bp vl l (takeU k many on l u) ∧ Kept (fun q => q = bp) w w')
theorem RTakeP.bad {base bp : Nat} {vl : Value} {l : List Dev} {u : List Bool} {k : ByteArray} {many : Int} {on : Nat} {w w' : World} {f : Int} (hf : takeF k many on l u = f) (h0 : f ≠ 0) {v : Value} (hv : v = .int .i64 f) (hb : Below w.heap.size w w') :
    RTakeP base bp vl l u k many on w (.returned (.tuple #[.slice none 0 0, v])) w' := .inl ⟨by rw [hf]; exact h0, by rw [hf, hv], hb⟩
/-- Between two steps of the rounds: who is marked; mine is at block bm. -/
structure RtI (base bp bm : Nat) (vl : Value) (l : List Dev) (u : List Bool) (M : List Nat) (w wi : World) : Prop where
  is : RIs wi base bp vl l (markU u true (M.map Int.ofNat))
  mine : Blk wi bm 127 (pad (markU (List.replicate 16 false) true (M.map Int.ofNat))).toArray
  kept : Kept (fun q => q = bp) w wi
theorem markU_snoc (u : List Bool) (b : Bool) (M : List Nat) (i : Nat) : markU u b ((M ++ [i]).map Int.ofNat) = (markU u b (M.map Int.ofNat)).set i b := by
  unfold markU
  rw [List.map_append, List.foldl_append]
  rfl
theorem pad_at0 (u : List Bool) (i : Nat) (hi : i < 16) : (pad u).toArray[i]? = some (.bool (u.getD i false)) := by
  have := pad_at .nilIface u i hi
  rw [Nat.add_comm] at this
  simpa using this
theorem pad_set0 (u : List Bool) (i : Nat) (hi : i < u.length) (b : Bool) : (pad u).toArray.setIfInBounds i (.bool b) = (pad (u.set i b)).toArray := by
  have := congrArg (fun a : Array Value => a.toList.tail) (pad_set .nilIface u i hi b)
  simp only [Array.toList_setIfInBounds] at this
  rw [Nat.add_comm] at this
  apply Array.ext'
  simpa using this
theorem mine_at (M : List Nat) (i : Nat) (hi : i < 16) : (pad (markU (List.replicate 16 false) true (M.map Int.ofNat))).toArray[i]? = some (.bool (decide (i ∈ M))) := by
  rw [pad_at0 _ i hi]
  have h := markU_at true M (List.replicate 16 false) i (by simpa using hi)
  have hlt : i < (markU (List.replicate 16 false) true (M.map Int.ofNat)).length := by rw [markU_len]; simpa using hi
  rw [List.getD, List.getElem?_eq_getElem hlt, Option.getD_some, h]
  by_cases hm : i ∈ M
  · simp [hm]
  · rw [if_neg hm, List.getElem_replicate, decide_eq_false hm]
theorem RtI.step {base bp bm : Nat} {vl : Value} {l : List Dev} {u : List Bool} {M : List Nat} {w wi : World} (h : RtI base bp bm vl l u M w wi) (hne : bp ≠ bm) (hbm : w.heap.size ≤ bm) {i : Nat} (hi : i < l.length) (hu : u.length = l.length) :
    RtI base bp bm vl l u (M ++ [i]) w ((wi.setCell ⟨bp, 1 + i, none⟩ (.bool true)).setCell ⟨bm, i, none⟩ (.bool true)) := by
  have hl16 := h.is.rl.many
  have h1 := RIs.mark h.is (i := i) (by rw [markU_len]; omega) true
  rw [← markU_snoc] at h1
  have hk : Kept (fun q => q = bm) (wi.setCell ⟨bp, 1 + i, none⟩ (.bool true)) ((wi.setCell ⟨bp, 1 + i, none⟩ (.bool true)).setCell ⟨bm, i, none⟩ (.bool true)) := (Kept.refl _ _).set1 _
  have h2 := h.mine.far (p := ⟨bp, 1 + i, none⟩) (Ne.symm hne) (.bool true)
  refine ⟨h1.kept hk hne (fun q hq hh => ?_), ?_, ?_⟩
  · subst hh
    exact own_blk_ne h1.rl.row h2 (by decide) hq
  · have h3 := h2.set_ i (.bool true)
    rw [pad_set0 _ i (by rw [markU_len]; simp; omega) true, ← markU_snoc] at h3
    exact h3
  · exact ((h.kept.set1 _).setCell (.inr hbm) _)
theorem RtI.below {base bp bm : Nat} {vl : Value} {l : List Dev} {u : List Bool} {M : List Nat} {w wi w' : World} (h : RtI base bp bm vl l u M w wi) (hb : Below wi.heap.size wi w') : RtI base bp bm vl l u M w w' :=
  ⟨h.is.below hb, h.mine.below hb h.mine.lt, h.kept.thenB hb⟩
theorem RtI.grown {base bp bm n : Nat} {vl v : Value} {l : List Dev} {u : List Bool} {M : List Nat} {xs : List Value} {w wi w' : World} (h : RtI base bp bm vl l u M w wi) (ho : wi.ownsRow w.heap.size 3 1 v n xs) (hg : wi.grownBy w' v.ownBlock) : RtI base bp bm vl l u M w w' := by
  have hk : Kept (fun q => v.ownBlock = some q) wi w' := (Kept.refl _ _).grown hg (fun q hq => .inl hq)
  exact ⟨h.is.kept hk (fun hh => own_blk_ne ho h.is.blk (by decide) hh) (fun q hq hh => dv_own_ne h.is.rl.row ho (by decide) hq hh), h.mine.kept hk (fun hh => own_blk_ne ho h.mine (by decide) hh), h.kept.grown hg (fun q hq => .inr (ho.lt q hq).1)⟩
def headM (k : ByteArray) (on : Nat) (l : List Dev) (u : List Bool) (q r : Nat) : List Nat := if r = 2 then marks k on l u q 1 l.length else marks k on l u q r 0
theorem headM_next (k : ByteArray) (on : Nat) (l : List Dev) (u : List Bool) (q r : Nat) (hr : r = 0 ∨ r = 1) : headM k on l u q (r + 1) = marks k on l u q r l.length := by
  rcases hr with rfl | rfl
  · exact marks_next k on l u q
  · rfl
theorem ask_no {k : ByteArray} {on : Nat} {l : List Dev} {r i : Nat} {hi : i < l.length} {b : Bool} (h : hit k l[i] = false ∨ b = true ∨ (nearB on l i = false ∧ r = 0)) : askB k on l r i b hi = false := by
  unfold askB
  rcases h with h | h | ⟨h, rfl⟩
  · simp [h]
  · simp [h]
  · simp [h]
theorem ask_yes {k : ByteArray} {on : Nat} {l : List Dev} {r i : Nat} {hi : i < l.length} {b : Bool} (h : hit k l[i] = true) (h2 : b = false) (h3 : nearB on l i = true ∨ r = 1) : askB k on l r i b hi = true := by
  unfold askB
  rcases h3 with h3 | h3 <;> simp [h, h2, h3]
section
attribute [local irreducible] headM takeF takeL takeU nears fars want nearB hit both chosen natV pad markU marks askB rising cFree cAll
set_option maxRecDepth 100000 in
set_option maxHeartbeats 8000000 in
theorem RTake_any (base bp : Nat) (vl : Value) (l : List Dev) (u : List Bool) (k : ByteArray) (many : Int) (on : Nat) (hon : on < 256) (w : World) (h : RIs w base bp vl l u) :
    Calls Try.prog 95 #[.pointer (some ⟨bp, 0, none⟩), .string k, .int .i64 many, .int .u8 on] w (RTakeP base bp vl l u k many on w) := by
  by_cases hm : many < 0
  · have HF : Hid (takeF k many on l u = 1) := Lib.hid (by unfold takeF; rw [if_pos hm])
    clear h
    go_enter Try.func95, Try.ntmps95
    go_wp2_with fail
    go_ret2
    exact RTakeP.bad HF.out (by omega) rfl (Below.refl _ _)
  have hbl := h.blk.lt
  have HIS := Lib.hid h
  obtain ⟨A, c, hvl, q1, q2⟩ := h.rl.form
  have hn := h.rl.many
  have HU := Lib.hid h.len
  have HSB := Lib.hid (sum_both k on l u h.len)
  have HIN := Lib.hid (free_in k l u h.len l.length (Nat.le_refl _))
  rw [free_full k l u h.len] at HIN
  have HCO := Lib.hid (RCount_any base bp vl l u k w h)
  have HTF : Hid (takeF k many on l u = if ((both k on l u).length : Int) < many then 9 else 0) := Lib.hid (by unfold takeF; rw [if_neg hm])
  subst hvl
  unfold maxLen at q2
  clear h
  go_enter Try.func95, Try.ntmps95
  go_wp2_with fail
  refine HCO.out.mono ?_
  rintro e w1 ⟨rfl, hb1⟩
  obtain ⟨⟨f0, f1, f2, f3⟩, hcf⟩ : ∃ a, cFree k l u = a := ⟨_, rfl⟩
  obtain ⟨⟨a0, a1, a2, a3⟩, hca⟩ : ∃ a, cAll k l = a := ⟨_, rfl⟩
  rw [hcf] at HSB HIN ⊢
  rw [hca]
  have hsum := HSB.out
  have hin := HIN.out
  unfold sum4 at hsum
  unfold In at hin
  dsimp only at hsum hin
  unfold A4.val
  dsimp only
  have hb1x := hb1
  clear hcf hca hb1 HSB HIN HCO
  go_upto_region 4 with fail
  have hbw := (hb1x).alloc hb1x.size (.cells #[.int .i64 f0, .int .i64 f1, .int .i64 f2, .int .i64 f3] 75)
  have hbx := hbw.alloc hbw.size (.cells #[.int .i64 a0, .int .i64 a1, .int .i64 a2, .int .i64 a3] 75)
  by_cases h9 : ((both k on l u).length : Int) < many
  · have HF := Lib.hid (HTF.out.trans (if_pos h9))
    have h4 : f0 + f1 + f2 + f3 < many := by omega
    clear hsum h9
    go_wp2_with fail
    go_ret2
    exact RTakeP.bad HF.out (by omega) rfl hbx
  · have HF := Lib.hid (HTF.out.trans (if_neg h9))
    have h4 : ¬ f0 + f1 + f2 + f3 < many := by omega
    obtain ⟨q, rfl⟩ : ∃ q : Nat, many = q := ⟨many.toNat, by omega⟩
    have hq16 : q ≤ 16 := by have := both_len k on l u; omega
    have HTL := Lib.hid (rising_srt k on l u q hn)
    have HTU : Hid (takeU k q on l u = markU u true (((both k on l u).take q).map Int.ofNat)) := Lib.hid (by
      unfold takeU
      rw [if_pos HF.out]
      unfold chosen
      rw [Int.toNat_natCast])
    have hbm := hbx.alloc hbx.size (.cells (pad (markU (List.replicate 16 false) true (([] : List Nat).map Int.ofNat))).toArray 127)
    have hR0 : RtI base bp (w1.heap.size + 2) (.slice A l.length c) l u [] w ((((w1.alloc (.cells #[.int .i64 f0, .int .i64 f1, .int .i64 f2, .int .i64 f3] 75)).alloc (.cells #[.int .i64 a0, .int .i64 a1, .int .i64 a2, .int .i64 a3] 75)).alloc (.cells (pad (markU (List.replicate 16 false) true (([] : List Nat).map Int.ofNat))).toArray 127))) := by
      have hu0 : markU u true (([] : List Nat).map Int.ofNat) = u := by unfold markU; rfl
      refine ⟨by rw [hu0]; exact HIS.out.below hbm, ?_, Kept.of_below hbm⟩
      have := Blk.new1 (w1.alloc (.cells #[.int .i64 f0, .int .i64 f1, .int .i64 f2, .int .i64 f3] 75)) (.cells #[.int .i64 a0, .int .i64 a1, .int .i64 a2, .int .i64 a3] 75) 127 (pad (markU (List.replicate 16 false) true (([] : List Nat).map Int.ofNat))).toArray
      rw [World.size_alloc] at this
      exact this
    have hz16 : (pad (markU (List.replicate 16 false) true (([] : List Nat).map Int.ofNat))).toArray = #[.bool false, .bool false, .bool false, .bool false, .bool false, .bool false, .bool false, .bool false, .bool false, .bool false, .bool false, .bool false, .bool false, .bool false, .bool false, .bool false] := by
      have : markU (List.replicate 16 false) true (([] : List Nat).map Int.ofNat) = List.replicate 16 false := by unfold markU; rfl
      rw [this, pad_none]
      rfl
    rw [hz16] at hR0
    have HR0 := Lib.hid hR0
    have hne : bp ≠ w1.heap.size + 2 := by have := hb1x.size; omega
    have hbs : w.heap.size ≤ w1.heap.size + 2 := by have := hb1x.size; omega
    have HMS := Lib.hid (marks_start k on l u q)
    have HMN := Lib.hid (marks_next k on l u q)
    have HME := Lib.hid (marks_end k on l u q)
    clear hbm hR0 hz16 hbx hbw hsum h9 HTF hm hb1x
    go_upto_region 7 with fail
    generalize (((w1.alloc (.cells #[.int .i64 f0, .int .i64 f1, .int .i64 f2, .int .i64 f3] 75)).alloc (.cells #[.int .i64 a0, .int .i64 a1, .int .i64 a2, .int .i64 a3] 75)).alloc (.cells #[.bool false, .bool false, .bool false, .bool false, .bool false, .bool false, .bool false, .bool false, .bool false, .bool false, .bool false, .bool false, .bool false, .bool false, .bool false, .bool false] 127)) = w2 at *
    generalize w1.heap.size + 2 = bm at *
    go_wp2_with fail
    go_loopw [13, 14] (fun lv rv wi => ∃ r : Nat, rv = .int .i64 r ∧ r ≤ 2 ∧ lv = .int .i64 ((q : Int) - ((headM k on l u q r).length : Int)) ∧ Hid (RtI base bp bm (.slice A l.length c) l u (headM k on l u q r) w wi)) (fun _ r _ => 2 - (intOf r).toNat)
    case atStart =>
      have hh : headM k on l u q 0 = [] := by unfold headM; rw [if_neg (by omega), HMS.out]
      exact ⟨0, rfl, by omega, by rw [hh]; simp, Lib.hid (by rw [hh]; exact HR0.out)⟩
    case round =>
      clear HR0
      obtain ⟨r, rfl, hr, rfl, HT0⟩ := hrel
      by_cases hr2 : r < 2
      · have hr01 : r = 0 ∨ r = 1 := by omega
        have HR01 := Lib.hid hr01
        have HNX := Lib.hid (headM_next k on l u q r hr01)
        have HH0 : Hid (headM k on l u q r = marks k on l u q r 0) := Lib.hid (by unfold headM; rw [if_neg (by omega)])
        clear hr01
        rw [HH0.out] at HT0 ⊢
        go_wp2_with fail
        go_loopw [13, 15] (fun lv iv wi => ∃ i : Nat, iv = .int .i64 i ∧ i ≤ l.length ∧ lv = .int .i64 ((q : Int) - ((marks k on l u q r i).length : Int)) ∧ Hid (RtI base bp bm (.slice A l.length c) l u (marks k on l u q r i) w wi)) (fun _ i _ => l.length - (intOf i).toNat)
        case atStart => exact ⟨0, rfl, by omega, rfl, HT0⟩
        case round =>
          clear HT0
          obtain ⟨i, rfl, hi, rfl, HT⟩ := hrel
          have hp0 := HT.out.is.c0
          have hbpl := HT.out.is.blk.lt
          have hbml := HT.out.mine.lt
          have hle := marks_le k on l u q r i
          by_cases hlt : i < l.length
          · by_cases hq : (marks k on l u q r i).length < q
            · obtain ⟨g, rfl, hg, d0, d1, d2⟩ := HT.out.is.rl.cell hlt
              have hfin := HT.out.is.rl.fine l[i] (List.getElem_mem hlt)
              obtain ⟨n, hn0⟩ : ∃ n : Nat, l[i].node = (n : Int) := ⟨l[i].node.toNat, by have := hfin.2.1; omega⟩
              have hn4 : n < 4 := by have := hfin.2.2; omega
              have cu := HT.out.is.used hlt
              have zu := HT.out.is.blk.frozens
              have zm := HT.out.mine.frozens
              have cm := (HT.out.mine.cells i).trans (mine_at (marks k on l u q r i) i (by omega))
              have HSTEP := Lib.hid (marks_step k on l u HU.out q r i HR01.out hlt hq)
              have HNB := Lib.hid (nearB_at (on := on) hlt)
              have hnt : l[i].node.toNat = n := by omega
              rw [hnt] at HNB
              generalize (markU u true ((marks k on l u q r i).map Int.ofNat))[i]'(by rw [markU_len]; have := HU.out; omega) = bu at *
              obtain ⟨d, hd⟩ : ∃ d, l[i] = d := ⟨_, rfl⟩
              have HD := Lib.hid hd
              rw [hd] at d0 d1 d2 hn0
              clear hnt hfin hd
              obtain ⟨dk, dn, ds⟩ := d
              dsimp only at *
              subst hn0
              have hb8 := u8_bit on n hon
              have hba : Below wr.heap.size wr (wr.alloc (.cells #[.string dk, .int .i64 n, .bool ds] 131)) := (Below.refl _ _).alloc (Nat.le_refl _) _
              have hzn : hit k ⟨dk, n, ds⟩ = hit k l[i] := by rw [HD.out]
              have HZN := Lib.hid hzn
              clear hzn
              cases h1 : (dk.toList == k.toList)
              · have HF2 := Lib.hid (HSTEP.out.trans (if_neg (by rw [ask_no (.inl (by rw [← HZN.out]; exact hit_kind h1))]; simp)))
                clear HSTEP HNB
                go_wp2_with fail
                go_roundw
                case rel => exact ⟨i + 1, by go_num, by omega, by rw [HF2.out], Lib.hid (by rw [HF2.out]; exact HT.out.below hba)⟩
                case measure => simp [intOf]; omega

              · cases ds
                · cases bu
                  · rcases bt_01 on n with hz | hz
                    · have HNF : Hid (nearB on l i = false) := Lib.hid (HNB.out.trans (by rw [hz]; rfl))
                      rw [hz] at hb8
                      clear hz
                      rcases HR01.out with rfl | rfl
                      · have HF2 := Lib.hid (HSTEP.out.trans (if_neg (by rw [ask_no (.inr (.inr ⟨HNF.out, rfl⟩))]; simp)))
                        clear HSTEP HNB
                        go_wp2_with fail
                        go_roundw
                        case rel => exact ⟨i + 1, by go_num, by omega, by rw [HF2.out], Lib.hid (by rw [HF2.out]; exact HT.out.below hba)⟩
                        case measure => simp [intOf]; omega

                      · have HF2 := Lib.hid (HSTEP.out.trans (if_pos (ask_yes (by rw [← HZN.out]; exact hit_yes h1 rfl) rfl (.inr rfl))))
                        clear HSTEP HNB
                        go_wp2_with fail
                        go_roundw
                        case rel => exact ⟨i + 1, by go_num, by omega, by rw [HF2.out, List.length_append]; go_num, Lib.hid (by rw [HF2.out]; exact (HT.out.step hne hbs hlt HU.out).below ((Below.refl _ _).alloc (Nat.le_refl _) _))⟩
                        case measure => simp [intOf]; omega

                    · have HNF : Hid (nearB on l i = true) := Lib.hid (HNB.out.trans (by rw [hz]; rfl))
                      rw [hz] at hb8
                      clear hz
                      have HF2 := Lib.hid (HSTEP.out.trans (if_pos (ask_yes (by rw [← HZN.out]; exact hit_yes h1 rfl) rfl (.inl HNF.out))))
                      clear HSTEP HNB
                      go_wp2_with fail
                      go_roundw
                      case rel => exact ⟨i + 1, by go_num, by omega, by rw [HF2.out, List.length_append]; go_num, Lib.hid (by rw [HF2.out]; exact (HT.out.step hne hbs hlt HU.out).below ((Below.refl _ _).alloc (Nat.le_refl _) _))⟩
                      case measure => simp [intOf]; omega

                  · have HF2 := Lib.hid (HSTEP.out.trans (if_neg (by rw [ask_no (.inr (.inl rfl))]; simp)))
                    clear HSTEP HNB
                    go_wp2_with fail
                    go_roundw
                    case rel => exact ⟨i + 1, by go_num, by omega, by rw [HF2.out], Lib.hid (by rw [HF2.out]; exact HT.out.below hba)⟩
                    case measure => simp [intOf]; omega

                · have HF2 := Lib.hid (HSTEP.out.trans (if_neg (by rw [ask_no (.inl (by rw [← HZN.out]; exact hit_sick rfl))]; simp)))
                  clear HSTEP HNB
                  go_wp2_with fail
                  go_roundw
                  case rel => exact ⟨i + 1, by go_num, by omega, by rw [HF2.out], Lib.hid (by rw [HF2.out]; exact HT.out.below hba)⟩
                  case measure => simp [intOf]; omega

            · have HSTOP := Lib.hid (HNX.out.trans (marks_stop k on l u q r i hi (by omega)))
              go_wp2_with fail
              go_roundw
              case rel => exact ⟨r + 1, by go_num, by omega, by rw [HSTOP.out], Lib.hid (by rw [HSTOP.out]; exact HT.out)⟩
              case measure => simp [intOf]; omega
          · obtain rfl : i = l.length := by omega
            go_wp2_with fail
            go_roundw
            case rel => exact ⟨r + 1, by go_num, by omega, by rw [HNX.out], Lib.hid (by rw [HNX.out]; exact HT.out)⟩
            case measure => simp [intOf]; omega
      · obtain rfl : r = 2 := by omega
        have HH2 : Hid (headM k on l u q 2 = (both k on l u).take q) := Lib.hid (by unfold headM; rw [if_pos rfl, HME.out])
        rw [HH2.out] at HT0 ⊢
        obtain ⟨M, hM⟩ : ∃ M, (both k on l u).take q = M := ⟨_, rfl⟩
        rw [hM] at HT0 HTL HTU ⊢
        have HRZ := Lib.hid (rising_zero M)
        have h22 : ((2 : Nat) : Int) = 2 := rfl
        rw [h22]
        clear hM HH2 h22
        go_wp2_with fail
        go_loopw [18, 19] (fun lv iv wi => ∃ (i : Nat) (A8 : Option Addr) (c8 : Nat), iv = .int .i64 i ∧ i ≤ 16 ∧ lv = .slice A8 (rising M i).length c8 ∧ Hid (wi.ownsRow w.heap.size 3 1 (.slice A8 (rising M i).length c8) (rising M i).length (dInts (rising M i))) ∧ Hid (RtI base bp bm (.slice A l.length c) l u M w wi)) (fun _ i _ => 16 - (intOf i).toNat)
        case atStart => exact ⟨0, none, 0, rfl, by omega, by rw [HRZ.out]; rfl, Lib.hid (by rw [HRZ.out]; exact World.ownsRow_nil _ _ _ _), HT0⟩
        case round =>
          clear HT0
          obtain ⟨i, A8, c8, rfl, hi, rfl, HO, HT⟩ := hrel
          have hbml := HT.out.mine.lt
          have hrl := rising_len M i
          by_cases hlt : i < 16
          · have cm := (HT.out.mine.cells i).trans (mine_at M i hlt)
            by_cases hm : i ∈ M
            · rw [decide_eq_true hm] at cm
              have HRI := Lib.hid (rising_in hm)
              have hwz : w.heap.size ≤ wr.heap.size := HT.out.kept.size
              have ho := HO.out
              clear hm
              go_wp2_with (at_builtin; refine wpList_app _ dvIntT rfl (.tmp 114) (.tmp 116) rfl w.heap.size (.slice A8 (rising M i).length c8) (rising M i).length (dInts (rising M i)) rfl (by exact ho.alloc _) ⟨wr.heap.size, 0, none⟩ 1 1 [.int .i64 i] rfl rfl (news_new wr _ _) (by simp [Value.oneCell']) (by omega) (by unfold maxLen; omega) (by omega) (by simp; omega) ?_; intro g9 c9 w9 hown9 hgr9 hat9 hlt9)
              have HO9 := Lib.hid hown9
              have HT9 := Lib.hid ((HT.out.below ((Below.refl _ _).alloc (Nat.le_refl _) _)).grown (ho.alloc _) hgr9)
              clear hown9 hgr9 hat9 ho
              go_wp2_with fail
              go_roundw
              case rel => exact ⟨i + 1, some ⟨g9, 0, none⟩, c9, by go_num, by omega, by rw [HRI.out, List.length_append]; rfl, Lib.hid (by rw [HRI.out, List.length_append]; simpa [dInts] using HO9.out), HT9⟩
              case measure => simp [intOf]; omega
            · rw [decide_eq_false hm] at cm
              have HRI := Lib.hid (rising_out hm)
              clear hm
              go_wp2_with fail
              go_roundw
              case rel => exact ⟨i + 1, A8, c8, by go_num, by omega, by rw [HRI.out], Lib.hid (by rw [HRI.out]; exact HO.out), HT⟩
              case measure => simp [intOf]; omega
          · obtain rfl : i = 16 := by omega
            go_wp2_with fail
            go_ret2
            refine .inr ⟨HF.out, A8, c8, by rw [HTL.out]; rfl, ?_, ?_, HT.out.kept⟩
            · rw [HTL.out]; exact HO.out
            · rw [HTU.out]; exact HT.out.is
end
end Go.Proofs.Yticmfflnenoplaa
