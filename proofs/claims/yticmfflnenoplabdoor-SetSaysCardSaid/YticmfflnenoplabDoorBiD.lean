/- Sets of processors: Text, and the reference's: their walks. No statement is proved here. -/
import Derived.Test.YticmfflnenoplabDoorBiC
import Derived.Test.YticmfflnenoplabDoorAmG
namespace Go.Proofs.YticmfflnenoplabDoor
open Go.RowKit Go.Deep Pop Bi
theorem strT : ElemT Tryd.prog 63 9 (.string ⟨#[]⟩) 1 16 := ⟨Tryd.underlying63, by kernel_rfl, rfl, by omega⟩
theorem str_app (a b : List UInt8) : (⟨a.toArray⟩ : ByteArray) ++ ⟨b.toArray⟩ = ⟨(a ++ b).toArray⟩ := by
  apply Go.WideShapes.bytes_inj
  simp
namespace Bi
theorem hasF_nat {x n : Nat} (hx : x < 18446744073709551616) : hasF x n = inS x n := by
  rcases Nat.lt_or_ge n 64 with h | h
  · exact hasF_at h
  · rw [hasF_out (.inr (by omega)), bit_high hx h]
/-- The texts of spans, as they lie in memory. -/
def textsV (ps : List (Nat × Nat)) : List Value := ps.map fun p => Value.string ⟨(spanT p).toArray⟩
theorem textsV_nil : textsV [] = [] := rfl
theorem textsV_snoc (ps : List (Nat × Nat)) (p : Nat × Nat) : textsV (ps ++ [p]) = textsV ps ++ [.string ⟨(spanT p).toArray⟩] := by simp [textsV]
theorem itoa2 {n : Nat} (h : n < 64) : (Lib.itoa (n : Int)).length ≤ 2 := by
  rw [Am.itoa_nat]
  exact Am.dec_len n 2 (by omega) (by omega)
theorem spanT_len {p : Nat × Nat} (h1 : p.1 < 64) (h2 : p.2 < 64) : (spanT p).length ≤ 5 := by
  have := itoa2 h1
  have := itoa2 h2
  unfold spanT
  split
  · simp only [List.length_append, List.length_cons]; omega
  · simp only [List.length_append, List.length_nil]; omega
theorem join_len {ps : List (Nat × Nat)} (h : ∀ p ∈ ps, p.1 < 64 ∧ p.2 < 64) : (Lib.join (ps.map spanT) [44]).length ≤ 6 * ps.length := by
  induction ps with
  | nil => simp [Lib.join, List.intercalate]
  | cons p ps ih =>
    have h1 := spanT_len (h p (by simp)).1 (h p (by simp)).2
    have h2 := ih fun q hq => h q (by simp [hq])
    cases ps with
    | nil => simp [Lib.join, List.intercalate]; omega
    | cons q ps =>
      have e : Lib.join ((p :: q :: ps).map spanT) [44] = spanT p ++ 44 :: Lib.join ((q :: ps).map spanT) [44] := by simp [Lib.join, List.intercalate]
      rw [e]
      simp only [List.length_append, List.length_cons] at h2 ⊢
      omega
end Bi
def RetT (l : List UInt8) (w : World) (e : Ending) (w' : World) : Prop := e = .returned (.string ⟨l.toArray⟩) ∧ Below w.heap.size w w'
theorem RetT.of {l m : List UInt8} {w w' : World} (h : l = m) (hb : Below w.heap.size w w') : RetT l w (.returned (.string ⟨m.toArray⟩)) w' := by subst h; exact ⟨rfl, hb⟩
theorem join_any (A : Option Addr) (c : Nat) (ps : List (Nat × Nat)) (base : Nat) (w : World) (h : w.ownsRow base 9 1 (.slice A ps.length c) ps.length (textsV ps)) (hp : ∀ p ∈ ps, p.1 < 64 ∧ p.2 < 64) (hl : ps.length ≤ 64) :
    Calls Tryd.prog 33 #[.slice A ps.length c, .string ⟨#[44]⟩] w (RetT (Lib.join (ps.map spanT) [44]) w) := by
  obtain ⟨A', c', e, h1, _, h3⟩ := own_form h
  simp only [Value.slice.injEq, true_and] at e
  obtain ⟨rfl, rfl⟩ := e
  rcases Nat.eq_zero_or_pos ps.length with h0 | h0
  · obtain rfl := List.length_eq_zero_iff.1 h0
    refine (Tryd.strings_Join_none A c ⟨#[44]⟩ w).mono ?_
    rintro e w' ⟨rfl, rfl⟩
    exact ⟨rfl, Below.refl _ _⟩
  · obtain ⟨g, rfl, hg, _⟩ := h3 h0
    have hj := join_len hp
    have e1 : (ps.map fun p => (⟨(spanT p).toArray⟩ : ByteArray)).map (fun b : ByteArray => b.data.toList) = ps.map spanT := by simp
    have := Tryd.strings_Join g 0 c (ps.map fun p => (⟨(spanT p).toArray⟩ : ByteArray)) ⟨#[44]⟩ w (fun j x hx => by
      have hj : j < ps.length := by simpa using (List.getElem?_eq_some_iff.1 hx).1
      rw [Nat.zero_add, h.cellAt j (by omega)]
      simp only [List.getElem?_map, List.getElem?_eq_getElem hj, Option.map_some, Option.some.injEq] at hx
      simp [textsV, hj, ← hx]) hg (by simp; omega) (by simpa using h1) (by rw [e1]; exact Nat.le_trans hj (by omega))
    rw [e1, List.length_map] at this
    exact this
section
attribute [local irreducible] inS spans endR spanT textsV Lib.itoa Lib.join hasF
set_option maxRecDepth 100000 in
set_option maxHeartbeats 4000000 in
theorem Text_any (x : Nat) (hx : x < 18446744073709551616) (w : World) (hL : LayS w) : Calls Tryd.prog 16 #[.int .u64 x] w (RetT (textP x) w) := by
  have HX := Lib.hid hx
  have HL := Lib.hid hL
  have hx0 : (0 : Int) ≤ x := by omega
  have hx1 : (x : Int) ≤ 18446744073709551615 := by omega
  have HTP : Hid (textP x = Lib.join ((spans x 0).map spanT) [44]) := Lib.hid (by unfold textP; rfl)
  have HS0 : Hid (spans x 0 = [] ++ spans x 0) := Lib.hid rfl
  clear hx hL
  go_enter Tryd.func16, Tryd.ntmps16
  go_wp2_with fail
  go_loopw [3, 4] (fun v n wi => ∃ (m : Nat) (ps : List (Nat × Nat)) (A : Option Addr) (c : Nat), n = .int .i64 m ∧ m ≤ 64 ∧ v = .slice A ps.length c ∧ Hid (spans x 0 = ps ++ spans x m) ∧ ps.length ≤ m ∧ Hid (wi.ownsRow w.heap.size 9 1 (.slice A ps.length c) ps.length (textsV ps)) ∧ Hid (∀ p ∈ ps, p.1 < 64 ∧ p.2 < 64) ∧ Below w.heap.size w wi) (fun _ n _ => 64 - (intOf n).toNat)
  case atStart => exact ⟨0, [], none, 0, rfl, by omega, rfl, HS0, by simp, Lib.hid (by rw [textsV_nil]; exact World.ownsRow_nil _ _ _ _), Lib.hid (fun p hp => by cases hp), Below.refl _ _⟩
  case round =>
    clear HS0
    obtain ⟨m, ps, A, c, rfl, hm, rfl, HS, hps, HO, HP, hb⟩ := hrel
    by_cases hlt : m < 64
    · have HH := Lib.hid (Has_any x m HX.out wr)
      rw [hasF_nat HX.out] at HH
      cases hi : inS x m
      · have HN : Hid (spans x 0 = ps ++ spans x (m + 1)) := Lib.hid (by rw [HS.out, spans_no hlt hi])
        rw [hi] at HH
        clear hi HS
        go_wp2_with fail
        refine HH.out.mono ?_
        rintro e w5 ⟨rfl, rfl⟩
        go_wp2_with fail
        go_roundw
        case rel => exact ⟨m + 1, ps, A, c, by go_num, by omega, rfl, HN, by omega, HO, HP, hb⟩
        case measure => simp [intOf]; omega
      · have HY : Hid (spans x 0 = (ps ++ [(m, endR x m)]) ++ spans x (endR x m + 1)) := Lib.hid (by rw [HS.out, spans_yes hlt hi, List.append_assoc]; rfl)
        have HEL := Lib.hid (endR_lt HX.out hlt)
        rw [hi] at HH
        clear hi HS
        go_wp2_with fail
        refine HH.out.mono ?_
        rintro e w5 ⟨rfl, rfl⟩
        clear HH
        go_wp2_with fail
        go_loop [4] (fun n => ∃ k : Nat, n = .int .i64 k ∧ m ≤ k ∧ k < 64 ∧ Hid (endR x m = endR x k)) (fun n => 64 - (intOf n).toNat)
        case atStart => exact ⟨m, rfl, by omega, hlt, Lib.hid rfl⟩
        case round =>
          obtain ⟨k, rfl, hmk, hk, HE⟩ := hrel
          have HH := Lib.hid (Has_any x ((k : Int) + 1) HX.out wr)
          rw [show ((k : Int) + 1) = ((k + 1 : Nat) : Int) from rfl, hasF_nat HX.out] at HH
          have HH2 : Hid (Calls Tryd.prog 20 #[.int .u64 x, .int .i64 ((k : Int) + 1)] wr (RetB (inS x (k + 1)) wr)) := Lib.hid HH.out
          clear HH
          cases hi : inS x (k + 1)
          · have HEE : Hid (endR x m = k) := Lib.hid (HE.out.trans (endR_no hi))
            rw [hi] at HH2
            have HI1 := Lib.hid (itoa_any m (by omega) (by omega) wr (HL.out.below hb).lay)
            have hl1 := itoa2 hlt
            have hl2 := itoa2 hk
            have HI2 := Lib.hid (fun W (hW : Below w.heap.size w W) => itoa_any k (by omega) (by omega) W (HL.out.below hW).lay)
            have HT1 := Lib.hid (fun (h : endR x m ≤ m) => spanT_one (p := (m, endR x m)) h)
            have HT2 := Lib.hid (fun (h : m < endR x m) => spanT_two (p := (m, endR x m)) h)
            rw [HEE.out] at HT1 HT2 HY
            have HSN := Lib.hid (textsV_snoc ps (m, k))
            have HPN : Hid (∀ p ∈ ps ++ [(m, k)], p.1 < 64 ∧ p.2 < 64) := Lib.hid (by
              intro p hp
              rcases List.mem_append.1 hp with hp | hp
              · exact HP.out p hp
              · obtain rfl := List.mem_singleton.1 hp
                exact ⟨hlt, hk⟩)
            have HLN : Hid ((ps ++ [(m, k)]).length = ps.length + 1) := Lib.hid (by simp)
            clear hi HE HEE
            dsimp only at HT1 HT2
            by_cases hkm : m < k
            · have HTT := Lib.hid (HT2.out hkm)
              generalize Lib.itoa (m : Int) = t1 at *
              obtain ⟨t2, ht2⟩ : ∃ t2, t2 = Lib.itoa (k : Int) := ⟨_, rfl⟩
              rw [← ht2] at hl2 HTT HI2
              clear HT1 HT2 ht2
              go_wp2_with fail
              refine HH2.out.mono ?_
              rintro e w6 ⟨rfl, rfl⟩
              go_wp2_with fail
              refine HI1.out.mono ?_
              rintro e w7 ⟨rfl, hb7⟩
              have hb7' := hb.trans (hb7.mono hb.size)
              have HO7 := Lib.hid (own_below HO.out hb7)
              clear hb7 hb HO
              go_wp2_with fail
              refine (HI2.out _ hb7').mono ?_
              rintro e w8 ⟨rfl, hb8⟩
              have hb8' := hb7'.trans (hb8.mono hb7'.size)
              have HO8 := Lib.hid (own_below HO7.out hb8)
              clear hb8 hb7' HO7
              have HST : Hid ((⟨t1.toArray⟩ : ByteArray) ++ (⟨#[45]⟩ ++ ⟨t2.toArray⟩) = ⟨(spanT (m, k)).toArray⟩) := Lib.hid (by
                rw [HTT.out, show (⟨#[45]⟩ : ByteArray) = ⟨[(45 : UInt8)].toArray⟩ from rfl, str_app, str_app]
                rfl)
              go_upto_region 12 with fail
              rw [HST.out]
              go_wp2_with (at_builtin; refine wpList_app _ strT rfl (.tmp 32) (.tmp 34) rfl w.heap.size (.slice A ps.length c) ps.length (textsV ps) rfl (by exact HO8.out.alloc _) ⟨w8.heap.size, 0, none⟩ 1 1 [.string ⟨(spanT (m, k)).toArray⟩] rfl rfl (news_new w8 _ _) (by simp [Value.oneCell']) (by omega) (by unfold maxLen; omega) (by omega) (by have := hb8'.size; simp; omega) ?_; intro g9 c9 w9 hown9 hgr9 hat9 hlt9)
              rw [← HSN.out] at hown9
              have HO9 := Lib.hid hown9
              have hba := hb8'.alloc hb8'.size (.cells #[.string ⟨(spanT (m, k)).toArray⟩] 9)
              have hb9 : Below w.heap.size w w9 := hba.grown hgr9 hba.size (fun q hq => (HO8.out.lt q hq).1)
              clear hown9 hgr9 hat9 hba HO8
              go_wp2_with fail
              go_roundw
              case rel => exact ⟨k + 1, ps ++ [(m, k)], some ⟨g9, 0, none⟩, c9, by go_num, by omega, by rw [HLN.out], HY, by rw [HLN.out]; omega, Lib.hid (by have := HO9.out; rw [← HLN.out] at this; exact this), HPN, hb9⟩
              case measure => simp [intOf]; omega
            · obtain rfl : k = m := by omega
              have HTT := Lib.hid (HT1.out (Nat.le_refl _))
              obtain ⟨t1, ht1⟩ : ∃ t1, t1 = Lib.itoa (k : Int) := ⟨_, rfl⟩
              rw [← ht1] at hl1 HTT HI1
              clear HT1 HT2 ht1 HI2 hl2 hkm
              go_wp2_with fail
              refine HH2.out.mono ?_
              rintro e w6 ⟨rfl, rfl⟩
              go_wp2_with fail
              refine HI1.out.mono ?_
              rintro e w8 ⟨rfl, hb8⟩
              have hb8' := hb.trans (hb8.mono hb.size)
              have HO8 := Lib.hid (own_below HO.out hb8)
              clear hb8 hb HO
              rw [← HTT.out]
              go_wp2_with (at_builtin; refine wpList_app _ strT rfl (.tmp 32) (.tmp 34) rfl w.heap.size (.slice A ps.length c) ps.length (textsV ps) rfl (by exact HO8.out.alloc _) ⟨w8.heap.size, 0, none⟩ 1 1 [.string ⟨(spanT (k, k)).toArray⟩] rfl rfl (news_new w8 _ _) (by simp [Value.oneCell']) (by omega) (by unfold maxLen; omega) (by omega) (by have := hb8'.size; simp; omega) ?_; intro g9 c9 w9 hown9 hgr9 hat9 hlt9)
              rw [← HSN.out] at hown9
              have HO9 := Lib.hid hown9
              have hba := hb8'.alloc hb8'.size (.cells #[.string ⟨(spanT (k, k)).toArray⟩] 9)
              have hb9 : Below w.heap.size w w9 := hba.grown hgr9 hba.size (fun q hq => (HO8.out.lt q hq).1)
              clear hown9 hgr9 hat9 hba HO8
              go_wp2_with fail
              go_roundw
              case rel => exact ⟨k + 1, ps ++ [(k, k)], some ⟨g9, 0, none⟩, c9, by go_num, by omega, by rw [HLN.out], HY, by rw [HLN.out]; omega, Lib.hid (by have := HO9.out; rw [← HLN.out] at this; exact this), HPN, hb9⟩
              case measure => simp [intOf]; omega
          · have HEN := Lib.hid (HE.out.trans (endR_yes HX.out hi))
            have hk63 : k + 1 < 64 := by
              rcases Nat.lt_or_ge (k + 1) 64 with h | h
              · exact h
              · rw [bit_high HX.out h] at hi; cases hi
            rw [hi] at HH2
            clear hi
            go_wp2_with fail
            refine HH2.out.mono ?_
            rintro e w6 ⟨rfl, rfl⟩
            go_wp2_with fail
            go_round
            case rel => exact ⟨k + 1, by go_num, by omega, hk63, HEN⟩
            case measure => simp [intOf]; omega
    · obtain rfl : m = 64 := by omega
      have HE : Hid (spans x 0 = ps) := Lib.hid (by rw [HS.out, spans_end (by omega), List.append_nil])
      have HJ := Lib.hid (join_any A c ps w.heap.size wr HO.out HP.out (by omega))
      clear HS HO
      go_wp2_with fail
      refine HJ.out.mono ?_
      rintro e w5 ⟨rfl, hb5⟩
      go_wp2_with fail
      go_ret
      exact RetT.of (by rw [HTP.out, HE.out]) (hb.trans (hb5.mono hb.size))
end
end Go.Proofs.YticmfflnenoplabDoor
