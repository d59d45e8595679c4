/- hints.For: the walk: it returns the hints of the plain law. -/
import Derived.Test.YticmfflnenoplaaHintsB
import Derived.Deep.CutBlock
import Derived.Test.YticmfflnenoplaaComm
namespace Go.Proofs.Yticmfflnenoplaa
open Go.RowKit Mk

theorem hintT : ElemT Try.prog 81 90 (.agg #[.int .u8 0, .bool false]) 2 2 := ⟨Try.underlying81, by kernel_rfl, rfl, by omega⟩

/-- The world in the middle of For: its two arrays, its answer's variable and the wish in the making. -/
structure ForW (w wr : World) (free all : A4) (hv : Value) (n : Nat) (xs : List Value) : Prop where
  below : Below w.heap.size w wr
  b0 : Blk wr w.heap.size 75 #[.int .i64 free.a0, .int .i64 free.a1, .int .i64 free.a2, .int .i64 free.a3]
  b1 : Blk wr (w.heap.size + 1) 75 #[.int .i64 all.a0, .int .i64 all.a1, .int .i64 all.a2, .int .i64 all.a3]
  b2 : Blk wr (w.heap.size + 1 + 1) 83 #[.bool false, .slice none 0 0]
  b3 : Blk wr (w.heap.size + 1 + 1 + 1) 83 #[.bool false, hv]
  row : wr.ownsRow w.heap.size 90 2 hv n xs
theorem ForW.later {w wr w' : World} {free all : A4} {hv : Value} {n : Nat} {xs : List Value} (h : ForW w wr free all hv n xs) (hb : Below wr.heap.size wr w') : ForW w w' free all hv n xs :=
  ⟨h.below.trans (hb.mono h.below.size), h.b0.below hb h.b0.lt, h.b1.below hb h.b1.lt, h.b2.below hb h.b2.lt, h.b3.below hb h.b3.lt, own_below h.row hb⟩
theorem ForW.start (w : World) (free all : A4) : ForW w ((((w.alloc (.cells #[.int .i64 free.a0, .int .i64 free.a1, .int .i64 free.a2, .int .i64 free.a3] 75)).alloc (.cells #[.int .i64 all.a0, .int .i64 all.a1, .int .i64 all.a2, .int .i64 all.a3] 75)).alloc (.cells #[.bool false, .slice none 0 0] 83)).alloc (.cells #[.bool false, .slice none 0 0] 83)) free all (.slice none 0 0) 0 [] := by
  refine ⟨((((Below.refl _ _).alloc (Nat.le_refl _) _).alloc (by simp) _).alloc (by simp; omega) _).alloc (by simp; omega) _, (((Blk.new _ _ _).alloc _).alloc _).alloc _, ?_, ?_, ?_, World.ownsRow_nil _ _ _ _⟩
  · have := Blk.new (w.alloc (.cells #[.int .i64 free.a0, .int .i64 free.a1, .int .i64 free.a2, .int .i64 free.a3] 75)) 75 #[.int .i64 all.a0, .int .i64 all.a1, .int .i64 all.a2, .int .i64 all.a3]
    simp only [World.size_alloc] at this
    exact (this.alloc _).alloc _
  · have := Blk.new ((w.alloc (.cells #[.int .i64 free.a0, .int .i64 free.a1, .int .i64 free.a2, .int .i64 free.a3] 75)).alloc (.cells #[.int .i64 all.a0, .int .i64 all.a1, .int .i64 all.a2, .int .i64 all.a3] 75)) 83 #[.bool false, .slice none 0 0]
    simp only [World.size_alloc] at this
    exact this.alloc _
  · have := Blk.new (((w.alloc (.cells #[.int .i64 free.a0, .int .i64 free.a1, .int .i64 free.a2, .int .i64 free.a3] 75)).alloc (.cells #[.int .i64 all.a0, .int .i64 all.a1, .int .i64 all.a2, .int .i64 all.a3] 75)).alloc (.cells #[.bool false, .slice none 0 0] 83)) 83 #[.bool false, .slice none 0 0]
    simp only [World.size_alloc] at this
    exact this
theorem ForW.app {w wr w4 : World} {free all : A4} {hv : Value} {n m : Nat} {xs ys : List Value} {o : Obj} {g cap : Nat} (h : ForW w wr free all hv n xs)
    (hown : w4.ownsRow w.heap.size 90 2 (.slice (some ⟨g, 0, none⟩) m cap) m ys) (hg : (wr.alloc o).grownBy w4 hv.ownBlock) :
    ForW w (w4.setCell ⟨w.heap.size + 1 + 1 + 1, 1, none⟩ (.slice (some ⟨g, 0, none⟩) m cap)) free all (.slice (some ⟨g, 0, none⟩) m cap) m ys := by
  have far : ∀ {b : Nat} {t : TypeId} {cs : Array Value}, Blk wr b t cs → 90 ≠ t → Blk w4 b t cs := fun hb hne => (hb.alloc o).grown hg fun he => own_blk_ne h.row hb hne he.symm
  have g3 := far h.b3 (by decide)
  have hne : (Value.slice (some ⟨g, 0, none⟩) m cap).ownBlock ≠ some (w.heap.size + 1 + 1 + 1) := own_blk_ne hown g3 (by decide)
  have hb4 : Below w.heap.size w w4 := (h.below.alloc h.below.size o).grown hg (Nat.le_trans h.below.size (by simp)) fun k hk => (h.row.lt k hk).1
  refine ⟨hb4.setCell (by simp; omega) _, (far h.b0 (by decide)).far (by simp; omega) _, (far h.b1 (by decide)).far (by simp) _, (far h.b2 (by decide)).far (by simp) _, g3.set_ 1 _, ?_⟩
  exact own_kept (S := fun k => k = w.heap.size + 1 + 1 + 1) hown ((Kept.refl _ _).set1 _) fun k hk he => hne (by rw [hk, he])
def RetWish (any : Bool) (l : List Hint) (w : World) (e : Ending) (w' : World) : Prop :=
  ∃ hv, e = .returned (.agg #[.bool any, hv]) ∧ w'.ownsRow w.heap.size 90 2 hv l.length (flatH l) ∧ Below w.heap.size w w'

def flatM (l : List Nat) : List Value := l.flatMap fun (x : Nat) => [Value.int .u8 (x : Int), Value.bool false]
theorem narrow_one (all : A4) (n : Nat) (many : Int) (hm : 0 < many) : narrow all n many 1 = 5 := by
  have : over 0 all = 0 := by simp [over, psum, bt]
  have h : ¬ many ≤ 0 := by omega
  simp [narrow, condA, this, h]
theorem masks_one (free : A4) (n : Nat) (many : Int) (hm : 0 < many) : masks free n many 1 = [] := by
  have : over 0 free = 0 := by simp [over, psum, bt]
  have h : ¬ many ≤ 0 := by omega
  simp [masks, condA, this, h]
theorem masks_len (free : A4) (n : Nat) (many : Int) (k : Nat) : (masks free n many k).length ≤ k := by
  induction k with
  | zero => simp [masks]
  | succ k ih => simp only [masks, List.length_append]; split <;> simp <;> omega
/-- The row when the first i of the hints have been looked at. -/
def rowAt (all : A4) (n : Nat) (many : Int) (ms : List Nat) (i : Nat) : List Value := flatH ((ms.take i).map fun k => ⟨k, goodP all n many k⟩) ++ flatM (ms.drop i)
theorem flatH_len (l : List Hint) : (flatH l).length = l.length * 2 := by
  induction l with
  | nil => rfl
  | cons h l ih => simp only [flatH, List.flatMap_cons, List.length_append] at ih ⊢; rw [ih]; simp [Hint.cells]; omega
theorem rowAt_mask (all : A4) (n : Nat) (many : Int) (ms : List Nat) (i : Nat) (hi : i < ms.length) : (rowAt all n many ms i)[i * 2]? = some (.int .u8 (ms[i] : Int)) := by
  unfold rowAt
  rw [List.getElem?_append_right (by rw [flatH_len]; simp; omega), flatH_len, List.drop_eq_getElem_cons hi]
  simp [flatM, Nat.min_eq_left (Nat.le_of_lt hi), -List.getElem_cons_drop]
theorem rowAt_next (all : A4) (n : Nat) (many : Int) (ms : List Nat) (i : Nat) (hi : i < ms.length) : (rowAt all n many ms i).set (i * 2 + 1) (.bool (goodP all n many ms[i])) = rowAt all n many ms (i + 1) := by
  unfold rowAt
  have hl : (flatH ((ms.take i).map fun k => (⟨k, goodP all n many k⟩ : Hint))).length = i * 2 := by rw [flatH_len]; simp; omega
  rw [List.set_append_right _ _ (by omega), hl, List.take_succ_eq_append_getElem hi, List.drop_eq_getElem_cons hi]
  simp [flatM, flatH, Hint.cells, show i * 2 + 1 - i * 2 = 1 from by omega, -List.getElem_cons_drop, -List.take_append_getElem]
theorem rowAt_zero (all : A4) (n : Nat) (many : Int) (ms : List Nat) : rowAt all n many ms 0 = flatM ms := by simp [rowAt, flatH]
theorem rowAt_full (free all : A4) (n : Nat) (hn : n < 16) (many : Int) : rowAt all n many (masks free n many (n + 1)) (masks free n many (n + 1)).length = flatH (hintsOf free all n many) := by
  rw [← hints_p free all n hn many]
  simp [rowAt, flatM]
theorem hintsOf_len (free all : A4) (n : Nat) (hn : n < 16) (many : Int) : (hintsOf free all n many).length = (masks free n many (n + 1)).length := by
  rw [← hints_p free all n hn many]
  simp
theorem ForW.set {w wr : World} {free all : A4} {n m cap : Nat} {xs : List Value} {g : Nat} (h : ForW w wr free all (.slice (some ⟨g, 0, none⟩) m cap) n xs) (hm : m = n) (j : Nat) (u : Value) :
    ForW w (wr.setCell ⟨g, j, none⟩ u) free all (.slice (some ⟨g, 0, none⟩) m cap) n (xs.set j u) := by
  subst hm
  have hg : ∀ {b : Nat} {t : TypeId} {cs : Array Value}, Blk wr b t cs → 90 ≠ t → b ≠ g := fun hb hne he => own_blk_ne h.row hb hne (by rw [he]; rfl)
  refine ⟨h.below.setCell (h.row.lt g rfl).1 _, h.b0.far (hg h.b0 (by decide)) _, h.b1.far (hg h.b1 (by decide)) _, h.b2.far (hg h.b2 (by decide)) _, h.b3.far (hg h.b3 (by decide)) _, (World.ownsRow.stored h.row j u).1⟩
theorem u8_conv (k : Nat) (hk : k < 256) : IntKind.u8.wrap (k : Int) = (k : Int) := by rw [IntKind.wrap_u8']; omega

set_option maxRecDepth 100000 in
set_option maxHeartbeats 2000000 in
theorem for_none (free all : A4) (n : Nat) (many : Int) (hm : many ≤ 0) (w : World) :
    Calls Try.prog 51 #[free.val, all.val, .int .u8 n, .int .i64 many] w (RetWish true [] w) := by
  obtain ⟨f0, f1, f2, f3⟩ := free
  obtain ⟨a0, a1, a2, a3⟩ := all
  unfold A4.val
  dsimp only
  go_enter Try.func51, Try.ntmps51
  go_wp2
  refine bodyPost_ret (v := .agg #[.bool true, .slice none 0 0]) (by simp [results, Try.results51, go_sem]) rfl ⟨_, rfl, World.ownsRow_nil _ _ _ _, ?_⟩
  exact (((Below.refl _ _).alloc (Nat.le_refl _) _).alloc (by simp) _).alloc (by simp; omega) _

theorem flatM_nil : flatM [] = [] := rfl
theorem goodP_def (all : A4) (n : Nat) (many : Int) (x : Nat) : goodP all n many x = (decide (nodes x = narrow all n many (n + 1)) && decide (many ≤ over x all)) := rfl
section
attribute [local irreducible] narrow masks over nodes goodP hintsOf flatM rowAt flatH sub
set_option maxRecDepth 100000 in
set_option maxHeartbeats 6000000 in
theorem for_some (free all : A4) (hf : free.Small) (ha : all.Small) (n : Nat) (hn : n < 16) (many : Int) (hm : 0 < many) (w : World) :
    Calls Try.prog 51 #[free.val, all.val, .int .u8 n, .int .i64 many] w (RetWish false (hintsOf free all n many) w) := by
  have hover := fun (k : Nat) (hk : k < 256) (W : World) => over_any k hk free hf W
  have hovera := fun (k : Nat) (hk : k < 256) (W : World) => over_any k hk all ha W
  have HO := Lib.hid hover
  have HA := Lib.hid hovera
  clear hover hovera
  have hst := ForW.start w free all
  obtain ⟨f0, f1, f2, f3⟩ := free
  obtain ⟨a0, a1, a2, a3⟩ := all
  unfold A4.val at HO HA
  unfold A4.val
  dsimp only at HO HA hst
  dsimp only
  have hms := fun x hx => masks_lt ⟨f0, f1, f2, f3⟩ n many (n + 1) x hx
  have hll := masks_len ⟨f0, f1, f2, f3⟩ n many (n + 1)
  have hfu := rowAt_full ⟨f0, f1, f2, f3⟩ ⟨a0, a1, a2, a3⟩ n hn many
  have hle := hintsOf_len ⟨f0, f1, f2, f3⟩ ⟨a0, a1, a2, a3⟩ n hn many
  have hgp : ∀ x, goodP ⟨a0, a1, a2, a3⟩ n many x = (decide (nodes x = narrow ⟨a0, a1, a2, a3⟩ n many (n + 1)) && decide (many ≤ over x ⟨a0, a1, a2, a3⟩)) := fun _ => goodP_def _ _ _ _
  obtain ⟨ms, hmse⟩ : ∃ ms, masks ⟨f0, f1, f2, f3⟩ n many (n + 1) = ms := ⟨_, rfl⟩
  rw [hmse] at hms hll hfu hle
  have HM := Lib.hid hmse
  have hfull := Lib.hid hfu
  have hlenf := Lib.hid hle
  have HGP := Lib.hid hgp
  have HMS := Lib.hid hms
  clear hgp hms hfu hle hmse
  have hmd : decide (many ≤ 0) = false := by simp; omega
  go_enter Try.func51, Try.ntmps51
  go_upto_block 0 with fail
  go_cut [9] (fun s9 wx => s9 = .int .i64 (narrow ⟨a0, a1, a2, a3⟩ n many (n + 1)) ∧ ∃ A cap, ms.length ≤ cap ∧ cap ≤ maxLen ∧ ForW w wx ⟨f0, f1, f2, f3⟩ ⟨a0, a1, a2, a3⟩ (.slice A ms.length cap) ms.length (flatM ms))
  case first =>
    go_wp2_with fail
    go_loopw [9, 11] (fun s i wr => ∃ k : Nat, i = .int .i64 k ∧ 1 ≤ k ∧ k ≤ n + 1 ∧ s = .int .i64 (narrow ⟨a0, a1, a2, a3⟩ n many k) ∧ ∃ hv, ForW w wr ⟨f0, f1, f2, f3⟩ ⟨a0, a1, a2, a3⟩ hv (masks ⟨f0, f1, f2, f3⟩ n many k).length (flatM (masks ⟨f0, f1, f2, f3⟩ n many k))) (fun _ i _ => n + 1 - (intOf i).toNat)
    case atStart => exact ⟨1, rfl, by omega, by omega, by rw [narrow_one _ _ _ hm]; rfl, _, by rw [masks_one _ _ _ hm, flatM_nil]; exact hst⟩
    case round =>
      clear hst
      obtain ⟨k, rfl, hk1, hk2, rfl, hv, hW⟩ := hrel
      by_cases hlt : k < n + 1
      · have hcv := u8_conv k (by omega)
        have hq := u8_andNot_nat k n (by omega) (by omega)
        have hsp := sub_p ⟨n, hn⟩ ⟨k, by omega⟩
        simp only at hsp
        cases hs : sub k n
        · have hne : (bits BinOp.andNot IntKind.u8 ↑k ↑n != 0) = true := by
            rw [hs, beq_eq_false_iff_ne] at hsp
            rw [hq, bne_iff_ne]
            omega
          have hn1 := Lib.hid (show narrow ⟨a0, a1, a2, a3⟩ n many (k + 1) = narrow ⟨a0, a1, a2, a3⟩ n many k by simp [narrow, condA, hs])
          have hm1 := Lib.hid (show masks ⟨f0, f1, f2, f3⟩ n many (k + 1) = masks ⟨f0, f1, f2, f3⟩ n many k by simp [masks, condA, hs])
          clear hq hsp hs
          go_wp2_with fail
          go_roundw
          case rel => exact ⟨k + 1, by go_num, by omega, by omega, by rw [hn1.out], hv, by rw [hm1.out]; exact hW⟩
          case measure => simp [intOf]; omega
        · have hne : bits BinOp.andNot IntKind.u8 ↑k ↑n = 0 := by
            rw [hs, beq_iff_eq] at hsp
            rw [hq, hsp]
            rfl
          have HS := Lib.hid hs
          clear hq hsp hs
          have c1 := hW.b1.cells
          go_wp2_with fail
          refine (HA.out k (by omega) _).mono ?_
          rintro e w1 ⟨rfl, hb1⟩
          have hW1 := hW.later hb1
          clear hW c1 hb1
          have hna := Lib.hid (show narrow ⟨a0, a1, a2, a3⟩ n many (k + 1) = if many ≤ over k ⟨a0, a1, a2, a3⟩ then min (narrow ⟨a0, a1, a2, a3⟩ n many k) (nodes k) else narrow ⟨a0, a1, a2, a3⟩ n many k by simp [narrow, condA, HS.out])
          have hma := Lib.hid (show masks ⟨f0, f1, f2, f3⟩ n many (k + 1) = masks ⟨f0, f1, f2, f3⟩ n many k ++ (if many ≤ over k ⟨f0, f1, f2, f3⟩ then [k] else []) by simp [masks, condA, HS.out])
          generalize over k ⟨a0, a1, a2, a3⟩ = oa at *
          go_upto_if 34 with fail
          go_cut [9] (fun s9 wx => s9 = .int .i64 (narrow ⟨a0, a1, a2, a3⟩ n many (k + 1)) ∧ ForW w wx ⟨f0, f1, f2, f3⟩ ⟨a0, a1, a2, a3⟩ hv (masks ⟨f0, f1, f2, f3⟩ n many k).length (flatM (masks ⟨f0, f1, f2, f3⟩ n many k)))
          case first =>
            by_cases hA : many ≤ oa
            · go_wp2_with fail
              refine (nodes_any k (by omega) _).mono ?_
              rintro e w2 ⟨rfl, rfl⟩
              by_cases hmn : nodes k < narrow ⟨a0, a1, a2, a3⟩ n many k
              · have hh := Lib.hid (show narrow ⟨a0, a1, a2, a3⟩ n many (k + 1) = nodes k by rw [hna.out, if_pos hA]; omega)
                go_wp2_with fail
                all_goals
                  go_meet
                  exact ⟨by rw [hh.out]; first | rfl | (congr 2; omega), hW1⟩
              · have hh := Lib.hid (show narrow ⟨a0, a1, a2, a3⟩ n many (k + 1) = narrow ⟨a0, a1, a2, a3⟩ n many k by rw [hna.out, if_pos hA]; omega)
                go_wp2_with fail
                all_goals
                  go_meet
                  exact ⟨by rw [hh.out]; first | rfl | (congr 2; omega), hW1⟩
            · have hh := Lib.hid (show narrow ⟨a0, a1, a2, a3⟩ n many (k + 1) = narrow ⟨a0, a1, a2, a3⟩ n many k by rw [hna.out, if_neg hA])
              go_wp2_with fail
              go_meet
              exact ⟨by rw [hh.out], hW1⟩
          case rest =>
            obtain ⟨rfl, hW2⟩ := hcut
            clear hW1 hna
            have c0 := hW2.b0.cells
            go_wp2_with fail
            refine (HO.out k (by omega) _).mono ?_
            rintro e w3 ⟨rfl, hb3⟩
            have hW3 := hW2.later hb3
            clear hW2 hb3 c0
            generalize over k ⟨f0, f1, f2, f3⟩ = of at *
            by_cases hF : many ≤ of
            · have hh := Lib.hid (show masks ⟨f0, f1, f2, f3⟩ n many (k + 1) = masks ⟨f0, f1, f2, f3⟩ n many k ++ [k] by rw [hma.out, if_pos hF])
              have hlen := masks_len ⟨f0, f1, f2, f3⟩ n many k
              have c3 := hW3.b3.cells
              have d3 := hW3.b3.frozens
              have hne3 : some (w.heap.size + 1 + 1 + 1) ≠ hv.ownBlock := fun he => own_blk_ne hW3.row hW3.b3 (by decide) he.symm
              go_wp2_with (at_builtin; refine wpList_app _ hintT rfl (.tmp 45) (.tmp 48) rfl w.heap.size hv _ _ rfl (by exact hW3.row.alloc _) ⟨w3.heap.size, 0, none⟩ 1 1 [.int .u8 k, .bool false] rfl rfl (news_new w3 _ _) (by simp [Value.oneCell']) (by omega) (by unfold maxLen; omega) (by omega) (by have := hW3.below.size; simp; omega) ?_; intro g cap w4 hown4 hg4 hat4 hlt4; have hb4 := Blk.grown (hW3.b3.alloc _) hg4 hne3; have hc4 := hb4.cells; have hf4 := hb4.frozens)
              go_roundw
              case rel =>
                refine ⟨k + 1, by go_num, by omega, by omega, rfl, .slice (some ⟨g, 0, none⟩) ((masks ⟨f0, f1, f2, f3⟩ n many k).length + 1) cap, ?_⟩
                rw [hh.out]
                have := hW3.app hown4 hg4
                simpa [flatM] using this
              case measure => simp [intOf]; omega
            · have hh := Lib.hid (show masks ⟨f0, f1, f2, f3⟩ n many (k + 1) = masks ⟨f0, f1, f2, f3⟩ n many k by rw [hma.out, if_neg hF]; simp)
              go_wp2_with fail
              go_roundw
              case rel => exact ⟨k + 1, by go_num, by omega, by omega, rfl, hv, by rw [hh.out]; exact hW3⟩
              case measure => simp [intOf]; omega
      · have hke : k = n + 1 := by omega
        have HKE := Lib.hid hke
        have hd : (n : Int) < (k : Int) := by omega
        rw [hke, HM.out] at hW
        clear hke hlt hk1 hk2
        go_wp2_with fail
        go_meet
        refine ⟨by rw [HKE.out], ?_⟩
        rcases hW.row.2 with ⟨h1, h0⟩ | ⟨g, cap, cur, h1, _, _, h2, h3, _⟩
        · exact ⟨none, 0, by omega, by simp [maxLen], by rw [h1] at hW; rw [h0]; rw [h0] at hW; exact hW⟩
        · exact ⟨_, cap, h2, h3, by rw [h1] at hW; exact hW⟩
  case rest =>
    obtain ⟨rfl, A, cap, hcap1, hcap2, hW⟩ := hcut
    clear hst
    unfold maxLen at hcap2
    have c3 := hW.b3.cells
    go_upto_region 15 with fail
    clear c3
    go_loopw [54] (fun s wx => ∃ i : Nat, s = .int .i64 i ∧ i ≤ ms.length ∧ ForW w wx ⟨f0, f1, f2, f3⟩ ⟨a0, a1, a2, a3⟩ (.slice A ms.length cap) ms.length (rowAt ⟨a0, a1, a2, a3⟩ n many ms i)) (fun s _ => ms.length - (intOf s).toNat)
    case atStart => exact ⟨0, rfl, by omega, by rw [rowAt_zero]; exact hW⟩
    case round =>
      clear hW
      obtain ⟨i, rfl, hi, hW⟩ := hrel
      have c3 := hW.b3.cells
      by_cases hil : i < ms.length
      · obtain ⟨g, cap', hAe, _, _⟩ := hW.row.form (by omega)
        obtain rfl : A = some ⟨g, 0, none⟩ := by simp at hAe; exact hAe.1
        clear hAe
        have r0 := (hW.row.cellAt (i * 2) (by omega)).trans (rowAt_mask ⟨a0, a1, a2, a3⟩ n many ms i hil)
        have hxm := (HMS.out ms[i] (List.getElem_mem _)).1
        have hnext := rowAt_next ⟨a0, a1, a2, a3⟩ n many ms i hil
        rw [HGP.out ms[i]] at hnext
        have HN := Lib.hid hnext
        clear hnext
        obtain ⟨x, hx⟩ : ∃ x, ms[i] = x := ⟨_, rfl⟩
        rw [hx] at r0 hxm HN
        clear hx
        have hNx := nodes_any x (by omega)
        have hOx := HA.out x (by omega)
        have HNx := Lib.hid hNx
        have HOx := Lib.hid hOx
        clear hNx hOx
        obtain ⟨ox, hox⟩ : ∃ ox, over x ⟨a0, a1, a2, a3⟩ = ox := ⟨_, rfl⟩
        rw [hox] at HN HOx
        clear hox
        obtain ⟨nw, hnw⟩ : ∃ nw, narrow ⟨a0, a1, a2, a3⟩ n many (n + 1) = nw := ⟨_, rfl⟩
        rw [hnw] at HN
        rw [hnw]
        clear hnw
        obtain ⟨nx, hnx⟩ : ∃ nx, nodes x = nx := ⟨_, rfl⟩
        rw [hnx] at HN HNx
        clear hnx
        have d0 := hW.b0.cells
        have d1 := hW.b1.cells
        have hrl := (hW.row.lt g rfl).1
        have hrl2 := (hW.row.lt g rfl).2
        have hcellf := hW.row.frozenAt (i * 2 + 1)
        have hc2 := hW.row.cellAt (i * 2 + 1) (by omega)


        go_upto_region 18 with fail
        have hbel : Below wr.heap.size wr wr.drew := (Below.refl _ _).drew
        have l0 := hW.b0.lt
        have l1 := hW.b1.lt
        have l3 := hW.b3.lt
        refine Flo.region 14 [(0, true), (1, true), (2, true), (3, true), (5, true), (4, false), (6, true), (7, true), (8, true), (9, true), (11, true), (10, false), (12, true), (13, true)] (fun v => Below wr.heap.size wr v) (by kernel_rfl) (by kernel_rfl) rfl hbel ?_
        simp only [List.drop_succ_cons, List.drop_zero]
        iterate 5 (apply Flo.op rfl (hI := hbel); (· intro v hv K hK; obtain ⟨hc, hf⟩ := Flo.bcl hv; go_wp2_with fail; exact hK); (· rfl))
        refine Flo.seq rfl fun K hK => ?_
        go_wp2_with fail
        refine (HNx.out _).mono ?_
        rintro e w1 ⟨rfl, rfl⟩
        go_wp2_with fail
        refine hK _ _ hbel ?_
        by_cases hnn : nx = nw
        · have hb1 : (((nx : Nat) : Int) == ((nw : Nat) : Int)) = true := by simp; omega
          iterate 5 (apply Flo.op rfl (hI := hbel); (· intro v hv K hK; obtain ⟨hc, hf⟩ := Flo.bcl hv; go_wp2_with fail; exact hK); (· rfl))
          refine Flo.seq rfl fun K hK => ?_
          go_wp2_with fail
          refine (HOx.out _).mono ?_
          rintro e w1 ⟨rfl, hb⟩
          go_wp2_with fail
          have hbel1 : Below wr.heap.size wr w1 := hbel.trans hb
          refine hK _ _ hbel1 ?_
          iterate 2 (apply Flo.op rfl (hI := hbel1); (· intro v hv K hK; go_wp2_with fail; exact hK); (· rfl))
          refine Flo.tail fun K hK => ?_
          obtain ⟨v0, hv0⟩ : ∃ v0, (rowAt ⟨a0, a1, a2, a3⟩ n many ms i)[i * 2 + 1]? = some v0 := ⟨_, List.getElem?_eq_getElem (by have := hW.row.1; omega)⟩
          have q1 : w1.cell? ⟨g, i * 2 + 1, none⟩ = some v0 := ((hbel1.cell (p := ⟨g, i * 2 + 1, none⟩) hrl2).trans hc2).trans hv0
          have q2 : w1.frozen? ⟨g, i * 2 + 1, none⟩ = false := (hbel1.frozen (p := ⟨g, i * 2 + 1, none⟩) hrl2).trans hcellf
          have HN2 := Lib.hid (show (rowAt ⟨a0, a1, a2, a3⟩ n many ms i).set (i * 2 + 1) (.bool (decide (many ≤ ox))) = rowAt ⟨a0, a1, a2, a3⟩ n many ms (i + 1) by rw [← HN.out]; simp [hnn])
          have hW1 := hW.later hbel1
          clear c3 HO HA HM hfull hlenf HGP HMS hmd HNx HOx d0 d1 hc2 hcellf r0 hv0
          go_wp2_with fail
          go_roundw
          case rel =>
            refine ⟨i + 1, by go_num, by omega, ?_⟩
            rw [← HN2.out]
            exact hW1.set rfl _ _
          case measure => simp [intOf]; omega
        · have hb1 : (((nx : Nat) : Int) == ((nw : Nat) : Int)) = false := by simp; omega
          iterate 5 (apply Flo.op rfl (hI := hbel); (· intro v hv K hK; obtain ⟨hc, hf⟩ := Flo.bcl hv; go_wp2_with fail; exact hK); (· rfl))
          refine Flo.seq rfl fun K hK => ?_
          go_wp2_with fail
          refine hK _ _ hbel ?_
          iterate 2 (apply Flo.op rfl (hI := hbel); (· intro v hv K hK; go_wp2_with fail; exact hK); (· rfl))
          refine Flo.tail fun K hK => ?_
          obtain ⟨v0, hv0⟩ : ∃ v0, (rowAt ⟨a0, a1, a2, a3⟩ n many ms i)[i * 2 + 1]? = some v0 := ⟨_, List.getElem?_eq_getElem (by have := hW.row.1; omega)⟩
          have q1 : wr.cell? ⟨g, i * 2 + 1, none⟩ = some v0 := hc2.trans hv0
          have HN2 := Lib.hid (show (rowAt ⟨a0, a1, a2, a3⟩ n many ms i).set (i * 2 + 1) (.bool false) = rowAt ⟨a0, a1, a2, a3⟩ n many ms (i + 1) by rw [← HN.out]; simp [hnn])
          have hW1 := hW.later (Below.refl _ _).drew
          clear c3 HO HA HM hfull hlenf HGP HMS hmd HNx HOx d0 d1 hc2 r0 hv0 hbel
          go_wp2_with fail
          go_roundw
          case rel =>
            refine ⟨i + 1, by go_num, by omega, ?_⟩
            rw [← HN2.out]
            exact hW1.set rfl _ _
          case measure => simp [intOf]; omega
      · have hie : i = ms.length := by omega
        have hd : (ms.length : Int) ≤ (i : Int) := by omega
        rw [hie, hfull.out] at hW
        clear hie
        have c2 := hW.b2.cells
        have f2 := hW.b2.frozens
        have hB := ((hW.b2.set_ 0 (.bool false)).set_ 1 (.slice A ms.length cap)).cells
        have hne := own_blk_ne hW.row hW.b2 (by decide)
        go_wp2_with fail
        refine bodyPost_ret (v := .agg #[.bool false, .slice A ms.length cap]) (by simp [results, Try.results51, go_sem, hB]) rfl ⟨_, rfl, ?_, ?_⟩
        · rw [hlenf.out]
          refine own_kept (S := fun k => k = w.heap.size + 1 + 1) hW.row ?_ fun k hk he => hne (by rw [← he, hk])
          exact ((Kept.refl _ _).set1 _).trans ((Kept.refl _ _).set1 _)
        · exact (hW.below.setCell (by simp; omega) _).setCell (by simp; omega) _
end
end Go.Proofs.Yticmfflnenoplaa
