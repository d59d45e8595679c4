/- Devices: Take: its walk. No statement is proved here. -/
import Derived.Test.YticmfflnenoplabDvH
import Derived.Laws.AppendOwnNone
namespace Go.Proofs.Yticmfflnenoplab
open Go.RowKit Dv Mk
def natV (l : List Nat) : List Value := dInts (l.map Int.ofNat)
theorem natV_nil : natV [] = [] := rfl
theorem natV_app (a b : List Nat) : natV (a ++ b) = natV a ++ natV b := by simp [natV, dInts]
theorem natV_snoc (l : List Nat) (i : Nat) : natV (l ++ [i]) = natV l ++ [.int .i64 i] := by simp [natV, dInts]
theorem natV_len (l : List Nat) : (natV l).length = l.length * 1 := by simp [natV, dInts]
theorem natV_one (l : List Nat) : ∀ u ∈ natV l, u.oneCell' = true := dInts_one _
def TakeP (base bp : Nat) (vl vu : Value) (l : List Dev) (u : List Bool) (k : ByteArray) (many : Int) (on : Nat) (w : World) (e : Ending) (w' : World) : Prop :=
  (takeF k many on l u ≠ 0 ∧ e = .returned (.tuple #[.slice none 0 0, errV (takeF k many on l u)]) ∧ Below w.heap.size w w') ∨
  (takeF k many on l u = 0 ∧ ∃ A c, e = .returned (.tuple #[.slice A (takeL k many on l u).length c, .nilIface]) ∧ w'.ownsRow w.heap.size 3 1 (.slice A (takeL k many on l u).length c) (takeL k many on l u).length (dInts (takeL k many on l u)) ∧
    Dv.Is w' base bp vl vu l (takeU k many on l u) ∧ Kept (fun q => vu.ownBlock = some q) w w')
theorem TakeP.bad {base bp : Nat} {vl vu : Value} {l : List Dev} {u : List Bool} {k : ByteArray} {many : Int} {on : Nat} {w w' : World} {f : Int} (hf : takeF k many on l u = f) (h0 : f ≠ 0) {v : Value} (hv : v = errV f) (hb : Below w.heap.size w w') :
    TakeP base bp vl vu l u k many on w (.returned (.tuple #[.slice none 0 0, v])) w' := .inl ⟨by rw [hf]; exact h0, by rw [hf, hv], hb⟩
/-- What was met up to i: two rows of the call's own, apart. -/
structure TkI (w wi : World) (v10 v11 : Value) (ns fs : List Nat) : Prop where
  bel : Below w.heap.size w wi
  near : wi.ownsRow w.heap.size 3 1 v10 ns.length (natV ns)
  far : wi.ownsRow w.heap.size 3 1 v11 fs.length (natV fs)
  apart : ∀ g, v10.ownBlock = some g → v11.ownBlock ≠ some g
theorem TkI.below {w wi w' : World} {v10 v11 : Value} {ns fs : List Nat} (h : TkI w wi v10 v11 ns fs) (hb : Below wi.heap.size wi w') : TkI w w' v10 v11 ns fs :=
  ⟨h.bel.trans (hb.mono h.bel.size), own_below h.near hb, own_below h.far hb, h.apart⟩
theorem TkI.near_ {w wi w' : World} {v10 v11 : Value} {ns fs : List Nat} (h : TkI w wi v10 v11 ns fs) {g c i : Nat} (ho : w'.ownsRow w.heap.size 3 1 (.slice (some ⟨g, 0, none⟩) (ns.length + 1) c) (ns.length + 1) (natV ns ++ [.int .i64 i])) (hg : wi.grownBy w' v10.ownBlock) (ha : v10.ownBlock = some g ∨ g = wi.heap.size) :
    TkI w w' (.slice (some ⟨g, 0, none⟩) (ns.length + 1) c) v11 (ns ++ [i]) fs := by
  have hk : Kept (fun q => v10.ownBlock = some q) wi w' := (Kept.refl _ wi).grown hg (fun q hq => .inl hq)
  refine ⟨h.bel.grown hg h.bel.size (fun q hq => (h.near.lt q hq).1), by rw [List.length_append, natV_snoc]; exact ho, own_kept h.far hk (fun q hq hh => h.apart q hh hq), fun q hq hq2 => ?_⟩
  have : g = q := by simpa [Value.ownBlock] using hq
  subst this
  rcases ha with ha | ha
  · exact h.apart g ha hq2
  · have := (h.far.lt g hq2).2
    omega
theorem TkI.far_ {w wi w' : World} {v10 v11 : Value} {ns fs : List Nat} (h : TkI w wi v10 v11 ns fs) {g c i : Nat} (ho : w'.ownsRow w.heap.size 3 1 (.slice (some ⟨g, 0, none⟩) (fs.length + 1) c) (fs.length + 1) (natV fs ++ [.int .i64 i])) (hg : wi.grownBy w' v11.ownBlock) (ha : v11.ownBlock = some g ∨ g = wi.heap.size) :
    TkI w w' v10 (.slice (some ⟨g, 0, none⟩) (fs.length + 1) c) ns (fs ++ [i]) := by
  have hk : Kept (fun q => v11.ownBlock = some q) wi w' := (Kept.refl _ wi).grown hg (fun q hq => .inl hq)
  refine ⟨h.bel.grown hg h.bel.size (fun q hq => (h.far.lt q hq).1), own_kept h.near hk (fun q hq hh => h.apart q hq hh), by rw [List.length_append, natV_snoc]; exact ho, fun q hq hq2 => ?_⟩
  have : g = q := by simpa [Value.ownBlock] using hq2
  subst this
  rcases ha with ha | ha
  · exact h.apart g hq ha
  · have := (h.near.lt g hq).2
    omega
section
attribute [local irreducible] takeF takeL takeU nears fars want nearB hit both chosen natV
set_option maxRecDepth 100000 in
set_option maxHeartbeats 8000000 in
theorem Take_any (base bp : Nat) (vl vu : Value) (l : List Dev) (u : List Bool) (k : ByteArray) (many : Int) (on : Nat) (hon : on < 256) (w : World) (h : Dv.Is w base bp vl vu l u) :
    Calls Try.prog 26 #[.pointer (some ⟨bp, 0, none⟩), .string k, .int .i64 many, .int .u8 on] w (TakeP base bp vl vu l u k many on w) := by
  by_cases hm : many < 0
  · have HF : Hid (takeF k many on l u = 1) := Lib.hid (by unfold takeF; rw [if_pos hm])
    go_enter Try.func26, Try.ntmps26
    go_wp2_with fail
    go_ret2
    exact TakeP.bad HF.out (by omega) (by rw [errV_pos 1 (by omega)]; rfl) (Below.refl _ _)
  have hc := h.blk.cells
  have hbl := h.blk.lt
  have HIS := Lib.hid h
  obtain ⟨A, c, rfl, q1, q2⟩ := h.rl.form
  obtain ⟨A2, c2, rfl, q3, q4, _⟩ := own_form h.ru
  have hn := h.rl.many
  have HU := Lib.hid h.len
  have HN0 := Lib.hid (nears_zero k on l u)
  have HF0 := Lib.hid (fars_zero k on l u)
  unfold maxLen at q2 q4
  clear h
  go_enter Try.func26, Try.ntmps26
  go_wp2_with fail
  clear hc
  go_loopw [10, 11, 25] (fun v10 v11 i wi => ∃ (m : Nat) (A10 A11 : Option Addr) (c10 c11 : Nat), i = .int .i64 m ∧ m ≤ l.length ∧ v10 = .slice A10 (nears k on l u m).length c10 ∧ v11 = .slice A11 (fars k on l u m).length c11 ∧ Hid (TkI w wi (.slice A10 (nears k on l u m).length c10) (.slice A11 (fars k on l u m).length c11) (nears k on l u m) (fars k on l u m))) (fun _ _ i _ => l.length - (intOf i).toNat)
  case atStart =>
    refine ⟨0, none, none, 0, 0, rfl, by omega, by rw [HN0.out]; rfl, by rw [HF0.out]; rfl, Lib.hid ?_⟩
    rw [HN0.out, HF0.out]
    have hno : w.ownsRow w.heap.size 3 1 (.slice none 0 0) 0 (natV []) := by rw [natV_nil]; exact World.ownsRow_nil _ _ _ _
    exact ⟨Below.refl _ _, hno, hno, fun g hg => by simp [Value.ownBlock] at hg⟩
  case round =>
    obtain ⟨m, A10, A11, c10, c11, rfl, hml, rfl, rfl, HT⟩ := hrel
    have hb := HT.out.bel
    have his := HIS.out.below hb
    by_cases hlt : m < l.length
    · obtain ⟨g, rfl, hg, d0, d1, d2⟩ := his.rl.cell hlt
      have hfin := his.rl.fine l[m] (List.getElem_mem hlt)
      obtain ⟨n, hn0⟩ : ∃ n : Nat, l[m].node = (n : Int) := ⟨l[m].node.toNat, by have := hfin.2.1; omega⟩
      have hn4 : n < 4 := by have := hfin.2.2; omega
      obtain ⟨g2, rfl, hg2, cu⟩ := used_cell his.ru (i := m) (by have := HU.out; omega) HU.out
      have hp0 := his.blk.cells
      have hbp := his.blk.lt
      have HW := Lib.hid (want_at (k := k) hlt HU.out)
      have HNB := Lib.hid (nearB_at (on := on) hlt)
      have hnt : l[m].node.toNat = n := by omega
      rw [hnt] at HNB
      generalize u[m]'(by have := HU.out; omega) = b at *
      generalize l[m] = d at *
      obtain ⟨dk, dn, ds⟩ := d
      dsimp only at *
      subst hn0
      clear hnt hfin his
      have hnl := nears_len k on l u m
      have HB8 := Lib.hid (u8_bit on n hon)
      have hba : Below wr.heap.size wr (wr.alloc (.cells #[.string dk, .int .i64 n, .bool ds] 76)) := (Below.refl _ _).alloc (Nat.le_refl _) _
      have HT1 := Lib.hid (HT.out.below hba)
      have hnews : ∀ j x, ([.int .i64 m] : List Value)[j]? = some x → ((wr.alloc (.cells #[.string dk, .int .i64 n, .bool ds] 76)).alloc (.cells #[.int .i64 m] 3)).cell? ((⟨wr.heap.size + 1, 0, none⟩ : Addr).add j) = some x := by
        have := news_new (wr.alloc (.cells #[.string dk, .int .i64 n, .bool ds] 76)) [.int .i64 m] 3
        rw [World.size_alloc] at this
        exact this
      have HNW := Lib.hid hnews
      clear hnews
      cases h1 : (dk.toList == k.toList)
      · have HF := Lib.hid (step_none (on := on) (HW.out.trans (by rw [hit_kind h1]; rfl)))
        clear HW HNB
        go_wp2_with fail
        go_roundw
        case rel => exact ⟨m + 1, A10, A11, c10, c11, by go_num, by omega, by rw [HF.out.1], by rw [HF.out.2], Lib.hid (by rw [HF.out.1, HF.out.2]; exact HT.out.below hba)⟩
        case measure => simp [intOf]; omega
      · cases ds
        · cases b
          · have HWT : Hid (want k l u m = true) := Lib.hid (HW.out.trans (by rw [hit_yes h1 rfl]; rfl))
            rcases bt_01 on n with hz | hz
            · have HF := Lib.hid (step_far HWT.out (HNB.out.trans (by rw [hz]; rfl)))
              have hb8 := HB8.out
              rw [hz] at hb8
              clear hz HWT
              clear HW HNB
              go_wp2_with (at_builtin; refine wpList_app _ dvIntT rfl (.tmp 30) (.tmp 32) rfl w.heap.size (.slice A11 (fars k on l u m).length c11) (fars k on l u m).length (natV (fars k on l u m)) rfl (by exact HT1.out.far.alloc _) ⟨wr.heap.size + 1, 0, none⟩ 1 1 [.int .i64 m] rfl rfl HNW.out (by simp [Value.oneCell']) (by omega) (by unfold maxLen; omega) (by omega) (by have := hb.size; simp; omega) ?_; intro g8 c8 w8 hown8 hgr8 hat8 hlt8)
              have HT8 := Lib.hid ((HT1.out.below ((Below.refl _ _).alloc (Nat.le_refl _) _)).far_ hown8 hgr8 hat8)
              clear hown8 hgr8 hat8
              go_wp2_with fail
              go_roundw
              case rel => exact ⟨m + 1, A10, _, c10, c8, by go_num, by omega, by rw [HF.out.1], by rw [HF.out.2, List.length_append]; rfl, Lib.hid (by rw [HF.out.1, HF.out.2, List.length_append]; exact HT8.out)⟩
              case measure => simp [intOf]; omega
            · have HF := Lib.hid (step_near HWT.out (HNB.out.trans (by rw [hz]; rfl)))
              have hb8 := HB8.out
              rw [hz] at hb8
              clear hz HWT
              clear HW HNB
              go_wp2_with (at_builtin; refine wpList_app _ dvIntT rfl (.tmp 59) (.tmp 61) rfl w.heap.size (.slice A10 (nears k on l u m).length c10) (nears k on l u m).length (natV (nears k on l u m)) rfl (by exact HT1.out.near.alloc _) ⟨wr.heap.size + 1, 0, none⟩ 1 1 [.int .i64 m] rfl rfl HNW.out (by simp [Value.oneCell']) (by omega) (by unfold maxLen; omega) (by omega) (by have := hb.size; simp; omega) ?_; intro g8 c8 w8 hown8 hgr8 hat8 hlt8)
              have HT8 := Lib.hid ((HT1.out.below ((Below.refl _ _).alloc (Nat.le_refl _) _)).near_ hown8 hgr8 hat8)
              clear hown8 hgr8 hat8
              go_wp2_with fail
              go_roundw
              case rel => exact ⟨m + 1, _, A11, c8, c11, by go_num, by omega, by rw [HF.out.1, List.length_append]; rfl, by rw [HF.out.2], Lib.hid (by rw [HF.out.1, HF.out.2, List.length_append]; exact HT8.out)⟩
              case measure => simp [intOf]; omega
          · have HF := Lib.hid (step_none (on := on) (HW.out.trans (by rw [hit_yes h1 rfl]; rfl)))
            clear HW HNB
            go_wp2_with fail
            go_roundw
            case rel => exact ⟨m + 1, A10, A11, c10, c11, by go_num, by omega, by rw [HF.out.1], by rw [HF.out.2], Lib.hid (by rw [HF.out.1, HF.out.2]; exact HT.out.below hba)⟩
            case measure => simp [intOf]; omega
        · have HF := Lib.hid (step_none (on := on) (HW.out.trans (by rw [hit_sick rfl]; rfl)))
          clear HW HNB
          go_wp2_with fail
          go_roundw
          case rel => exact ⟨m + 1, A10, A11, c10, c11, by go_num, by omega, by rw [HF.out.1], by rw [HF.out.2], Lib.hid (by rw [HF.out.1, HF.out.2]; exact HT.out.below hba)⟩
          case measure => simp [intOf]; omega
    · obtain rfl : m = l.length := by omega
      have HTF : Hid (takeF k many on l u = if ((both k on l u).length : Int) < many then 9 else 0) := Lib.hid (by unfold takeF; rw [if_neg (by omega)])
      have HBO : Hid (both k on l u = nears k on l u l.length ++ fars k on l u l.length) := Lib.hid (by unfold both; rfl)
      have hnl := nears_len k on l u l.length
      obtain ⟨i0, hi0, hz0, hz1, hz2⟩ := info_parts dvIntT.hi
      have HI0 := Lib.hid hi0
      have HZ0 := Lib.hid hz0
      have HZ1 := Lib.hid hz1
      have HZ2 := Lib.hid hz2
      have HL2 := Lib.hid (natV_len (fars k on l u l.length))
      have HO2 := Lib.hid (natV_one (fars k on l u l.length))
      have hfn := HT.out.far
      clear hi0 hz0 hz1 hz2 hlt hml
      have HNB : Hid (natV (both k on l u) = natV (nears k on l u l.length) ++ natV (fars k on l u l.length)) := Lib.hid (by rw [HBO.out, natV_app])
      have HLB : Hid ((both k on l u).length = (nears k on l u l.length).length + (fars k on l u l.length).length) := Lib.hid (by rw [HBO.out, List.length_append])
      go_upto_region 12 with fail
      go_cut [11, 14] (fun _ v14 wx => ∃ A14 c14, v14 = .slice A14 (both k on l u).length c14 ∧ Hid (wx.ownsRow w.heap.size 3 1 (.slice A14 (both k on l u).length c14) (both k on l u).length (natV (both k on l u))) ∧ Hid (Below w.heap.size w wx))
      case first =>
        rcases hfn.2 with ⟨hv, h0⟩ | ⟨g, cap, cur, hv, hbg, hg, h1, h2, h3, h4⟩
        · simp only [Value.slice.injEq] at hv
          obtain ⟨rfl, _, rfl⟩ := hv
          have hnear := HT.out.near
          have HH0 := Lib.hid h0
          rw [h0]
          clear h0 hfn
          go_wp2_with (at_builtin; refine wpList_append_own_none rfl (.tmp 64) (.tmp 65) 77 rfl w.heap.size 3 i0 1 Try.underlying77 HI0.out (.slice A10 (nears k on l u l.length).length c10) _ _ rfl (by exact hnear) rfl ?_)
          go_wp2_with fail
          go_meet
          have hlb : (both k on l u).length = (nears k on l u l.length).length := by rw [HLB.out, HH0.out]; rfl
          have hnb : natV (both k on l u) = natV (nears k on l u l.length) := by rw [HNB.out, List.eq_nil_of_length_eq_zero HH0.out, natV_nil, List.append_nil]
          exact ⟨A10, c10, by rw [hlb], Lib.hid (by rw [hlb, hnb]; exact HT.out.near), Lib.hid HT.out.bel⟩
        · simp only [Value.slice.injEq, true_and] at hv
          obtain ⟨rfl, rfl⟩ := hv
          have hnear := HT.out.near
          have hcs : ∀ j x, (natV (fars k on l u l.length))[j]? = some x → wr.cell? ((⟨g, 0, none⟩ : Addr).add j) = some x := by
            intro j x hx
            have hj := (List.getElem?_eq_some_iff.1 hx).1
            rw [natV_len] at hj
            rw [Addr.add_lit, Nat.zero_add, hfn.cellAt j (by omega), hx]
          have HCS := Lib.hid hcs
          have hbz := hb.size
          clear hcs hg h1 h2 h3 h4 hfn
          go_wp2_with (at_builtin; refine wpList_append_own _ rfl (.tmp 64) (.tmp 65) 77 rfl w.heap.size 3 i0 _ 1 _ Try.underlying77 HI0.out HZ0.out HZ1.out HZ2.out rfl (by decide) (.slice A10 (nears k on l u l.length).length c10) _ _ rfl (by exact hnear) ⟨g, 0, none⟩ (fars k on l u l.length).length c11 (natV (fars k on l u l.length)) rfl HL2.out HCS.out HO2.out (by unfold maxLen; omega) (by omega) hbz ?_)
          intro v14 w8 hown8 hgr8 _
          have HO8 := Lib.hid hown8
          have HB8 : Hid (Below w.heap.size w w8) := Lib.hid (hb.grown hgr8 hbz (fun q hq => (HT.out.near.lt q hq).1))
          obtain ⟨A14, c14, rfl, _⟩ := own_form hown8
          clear hown8 hgr8 hnear
          go_wp2_with fail
          go_meet
          exact ⟨A14, c14, by rw [HLB.out], Lib.hid (by rw [HLB.out, HNB.out]; exact HO8.out), HB8⟩
      case rest =>
        obtain ⟨A14, c14, rfl, HO, HB⟩ := hcut
        clear HT hb his hfn
        have hof := own_form HO.out
        have hc14 : (both k on l u).length ≤ c14 ∧ c14 ≤ maxLen := by
          obtain ⟨A', c', he, e1, e2, _⟩ := hof
          simp only [Value.slice.injEq, true_and] at he
          rw [he.2]
          exact ⟨e1, e2⟩
        obtain ⟨hc14a, hc14b⟩ := hc14
        have hlb := both_len k on l u
        unfold maxLen at hc14b
        clear hof
        by_cases h9 : ((both k on l u).length : Int) < many
        · have HF := Lib.hid (HTF.out.trans (if_pos h9))
          go_wp2_with fail
          go_ret2
          exact TakeP.bad HF.out (by omega) (by rw [errV_pos 9 (by omega)]; rfl) HB.out
        · have HF := Lib.hid (HTF.out.trans (if_neg h9))
          obtain ⟨xs, hxs⟩ : ∃ xs, xs = chosen k many on l u := ⟨_, rfl⟩
          have hxl : xs.length = many.toNat := by
            rw [hxs]
            unfold chosen
            rw [List.length_map, List.length_take]
            omega
          have hxb : ∀ x ∈ xs, 0 ≤ x ∧ x < l.length := fun x hx => chosen_bound (by rw [← hxs]; exact hx)
          have hrow : wc.ownsRow w.heap.size 3 1 (.slice A14 xs.length c14) xs.length (dInts xs) := by
            have := own_take HO.out (m := xs.length) (by omega)
            have e : dInts xs = (natV (both k on l u)).take (xs.length * 1) := by
              rw [hxl, hxs, Nat.mul_one]
              unfold chosen natV dInts
              rw [← List.map_take, ← List.map_take]
            rw [e]
            exact this
          have HTL : Hid (takeL k many on l u = srt xs) := Lib.hid (by unfold takeL; rw [← hxs])
          have HTU : Hid (takeU k many on l u = markU u true xs) := Lib.hid (by unfold takeU; rw [if_pos HF.out, ← hxs])
          have HXB := Lib.hid hxb
          have HROW := Lib.hid hrow
          have HIW := Lib.hid (HIS.out.below HB.out)
          have hx16 : xs.length ≤ 16 := by omega
          have hmx : many = (xs.length : Int) := by omega
          have hxc : xs.length ≤ c14 := by omega
          have HM0 : Hid (markU u true (xs.take 0) = u) := Lib.hid (by unfold markU; rfl)
          have HOF := Lib.hid (own_form hrow)
          have hxle : xs.length ≤ (both k on l u).length := by omega
          clear hxs hxb hrow hxl h9 HTF hm
          subst hmx
          have h9 : ¬ ((both k on l u).length : Int) < (xs.length : Int) := by omega
          go_wp2_with fail
          go_loopw [77] (fun i wi => ∃ m : Nat, i = .int .i64 m ∧ m ≤ xs.length ∧ Hid (Mkd base bp (.slice A l.length c) (.slice A2 l.length c2) l (markU u true (xs.take m)) wc wi)) (fun i _ => xs.length - (intOf i).toNat)
          case atStart => exact ⟨0, rfl, by omega, Lib.hid (by rw [HM0.out]; exact ⟨HIW.out, Kept.refl _ _⟩)⟩
          case round =>
            obtain ⟨m, rfl, hmx2, HM⟩ := hrel
            have HRW := Lib.hid (own_kept HROW.out HM.out.kept (fun q hq hh => dv_own_ne HROW.out HIW.out.ru (by decide) hq hh))
            by_cases hlt3 : m < xs.length
            · obtain ⟨g4, rfl⟩ : ∃ g4, A14 = some ⟨g4, 0, none⟩ := by
                obtain ⟨A', c', he, _, _, h3⟩ := HOF.out
                simp only [Value.slice.injEq, true_and] at he
                obtain ⟨g4, hg4, _⟩ := h3 (by omega)
                exact ⟨g4, by rw [he.1, hg4]⟩
              have r0 := (HRW.out.cellAt m (by omega)).trans (dInts_at xs m hlt3)
              obtain ⟨x0, x1⟩ := HXB.out xs[m] (List.getElem_mem hlt3)
              have HS3 := Lib.hid (markU_succ u true xs m hlt3)
              generalize xs[m] = x at *
              obtain ⟨n, rfl⟩ : ∃ n : Nat, x = n := ⟨x.toNat, by omega⟩
              have hmm := HM.out
              have hnl2 : n < l.length := by omega
              obtain ⟨gu, rfl, hgu, cu⟩ := used_cell hmm.is.ru (i := n) (by rw [markU_len]; have := HU.out; omega) (by rw [markU_len]; exact HU.out)
              have hp0 := hmm.is.blk.cells
              have zf := hmm.is.ru.frozenAt
              generalize (markU u true (List.take m xs))[n]'(by rw [markU_len]; have := HU.out; omega) = bu at *
              clear hmm
              go_wp2_with fail
              go_roundw
              case rel =>
                refine ⟨m + 1, by go_num, by omega, Lib.hid ?_⟩
                rw [HS3.out]
                simpa using HM.out.set_ n true
              case measure => simp [intOf]; omega
            · obtain rfl : m = xs.length := by omega
              have HSO := Lib.hid (Sort_own w.heap.size (.slice A14 xs.length c14) xs wr HRW.out (by omega))
              have hmk := HM.out
              rw [List.take_length] at hmk
              have HMK := Lib.hid hmk
              clear hmk HM
              go_wp2_with fail
              refine HSO.out.mono ?_
              rintro e w9 ⟨rfl, hown9, hgr9⟩
              have HO9 := Lib.hid hown9
              have HG9 := Lib.hid hgr9
              clear hown9 hgr9
              go_wp2_with fail
              go_ret2
              have hk9 : Kept (fun q => (Value.slice A14 xs.length c14).ownBlock = some q) wr w9 := (Kept.refl _ _).grown HG9.out (fun q hq => .inl hq)
              have hlen : (takeL k xs.length on l u).length = xs.length := by rw [HTL.out, srt_len]
              refine .inr ⟨HF.out, A14, c14, by rw [hlen]; rfl, ?_, ?_, ?_⟩
              · rw [hlen, HTL.out]
                exact HO9.out
              · rw [HTU.out]
                exact HMK.out.is.kept hk9 (fun hh => own_blk_ne HRW.out HMK.out.is.blk (by decide) hh) (fun q hq hh => dv_own_ne HMK.out.is.rl.row HRW.out (by decide) hq hh) (fun q hq hh => dv_own_ne HMK.out.is.ru HRW.out (by decide) hq hh)
              · have hk1 : Kept (fun q => (Value.slice A2 l.length c2).ownBlock = some q) w wr := (Kept.of_below HB.out).trans HMK.out.kept
                exact hk1.grown HG9.out (fun q hq => .inr (HROW.out.lt q hq).1)
end
end Go.Proofs.Yticmfflnenoplab
