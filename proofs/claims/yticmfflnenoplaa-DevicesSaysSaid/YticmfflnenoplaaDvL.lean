/- Devices: SameNumbers; pools, the closed fact. No statement is proved here. -/
import Derived.Test.YticmfflnenoplaaDvK
namespace Go.Proofs.Yticmfflnenoplaa
open Go.RowKit Dv Mk
set_option maxRecDepth 100000 in
set_option maxHeartbeats 2000000 in
theorem SameN_any (v v2 : Value) (l : List Int) (S S2 : Nat → Prop) (w : World) (hl : l.length ≤ 1000000) (h1 : RS w S 1 RInt [v] l) (h2 : RS w S2 1 RInt [v2] l) (hS : ∀ b, S b → b < w.heap.size) (hS2 : ∀ b, S2 b → b < w.heap.size) :
    Calls Try.prog 96 #[v, v2] w (RetBB true w) := by
  obtain ⟨A, c, hv, _, _, hA⟩ := h1.form
  obtain rfl : v = _ := by simpa using hv
  obtain ⟨A2, c2, hv2, _, _, hA2⟩ := h2.form
  obtain rfl : v2 = _ := by simpa using hv2
  have H1 := Lib.hid h1
  have H2 := Lib.hid h2
  have HA := Lib.hid hA
  have HA2 := Lib.hid hA2
  have HS := Lib.hid hS
  have HS2 := Lib.hid hS2
  clear h1 h2 hA hA2 hv hv2 hS hS2
  go_enter Try.func96, Try.ntmps96
  go_upto_region 4 with fail
  go_loopw [5] (fun i wi => ∃ k : Nat, i = .int .i64 k ∧ k ≤ l.length ∧ Below w.heap.size w wi) (fun i _ => l.length - (intOf i).toNat)
  case atStart => exact ⟨0, rfl, by omega, Below.refl _ _⟩
  case round =>
    obtain ⟨k, rfl, hk, hbel⟩ := hrel
    by_cases hlt : k < l.length
    · obtain ⟨b, off, rfl, hb⟩ := HA.out k hlt
      obtain ⟨b2, off2, rfl, hb2⟩ := HA2.out k hlt
      have r0 := (rs_int (H1.out.move (w' := wr) (S' := S) (R' := RInt) (fun b hb => hbel.block b (HS.out b hb)) (fun _ h => h) (fun _ _ _ h => h)) hlt).1
      have s0 := (rs_int (H2.out.move (w' := wr) (S' := S2) (R' := RInt) (fun b hb => hbel.block b (HS2.out b hb)) (fun _ h => h) (fun _ _ _ h => h)) hlt).1
      generalize l[k] = g at *
      go_upto_region 6 with fail
      go_quiet (fail)
      go_wp2_with fail
      go_roundw
      case rel => exact ⟨k + 1, by go_num, by omega, below_drewN7 hbel _⟩
      case measure => simp [intOf]; omega
    · obtain rfl : k = l.length := by omega
      go_wp2_with fail
      go_ret
      exact ⟨rfl, hbel⟩
theorem dInts_flat (l : List Int) : dInts l = l.flatMap fun x => [.int .i64 x] := by
  unfold dInts
  induction l with
  | nil => rfl
  | cons x l ih => rw [List.map_cons, List.flatMap_cons, ih]; rfl
/-- Numbers of the call's own, read. -/
theorem rs_own {w : World} {base : Nat} {v : Value} {l : List Int} (h : w.ownsRow base 3 1 v l.length (dInts l)) (hb : ∀ x ∈ l, -9223372036854775808 ≤ x ∧ x ≤ 9223372036854775807) : RS w (fun b => v.ownBlock = some b) 1 RInt [v] l :=
  RS.own (f := fun x => [.int .i64 x]) (by
    rw [← dInts_flat]
    exact h) (fun _ _ => rfl) (fun x hx => ⟨rfl, hb x hx⟩) (fun g hg => hg)
def gpu : ByteArray := ⟨#[103, 112, 117]⟩
def gpus : List Dev := [⟨gpu, 0, false⟩, ⟨gpu, 1, false⟩]
theorem gpus_new : newF gpus = 0 := by
  have h : Qo.nameMay gpu = true := by decide +kernel
  simp [newF, devF, gpus, h]
theorem gpus_both : both gpu 2 gpus [false, false] = [1, 0] := by
  simp [both, nears, fars, gpus, want, hit, nearB, bt, List.range_succ]
theorem gpus_takeF : takeF gpu 1 2 gpus [false, false] = 0 := by
  unfold takeF
  rw [gpus_both]
  decide
theorem gpus_takeL : takeL gpu 1 2 gpus [false, false] = [1] := by
  unfold takeL chosen srt
  rw [gpus_both]
  simp
section
attribute [local irreducible] gpus takeF takeL takeU newF
set_option maxRecDepth 100000 in
set_option maxHeartbeats 2000000 in
theorem pools_any (w : World) : Calls Try.prog 91 #[] w (RetBB true w) := by
  have HN0 := Lib.hid gpus_new
  have HF0 := Lib.hid gpus_takeF
  have HL0 := Lib.hid gpus_takeL
  go_enter Try.func91, Try.ntmps91
  go_wp2_with fail
  have kb := Blk.new w 131 #[.string gpu, .int .i64 0, .bool false, .string gpu, .int .i64 1, .bool false]
  have hb0 : Below w.heap.size w (w.alloc (.cells #[.string gpu, .int .i64 0, .bool false, .string gpu, .int .i64 1, .bool false] 131)) := (Below.refl _ _).alloc (Nat.le_refl _) _
  have hrs : RSlice (w.alloc (.cells #[.string gpu, .int .i64 0, .bool false, .string gpu, .int .i64 1, .bool false] 131)) (w.alloc (.cells #[.string gpu, .int .i64 0, .bool false, .string gpu, .int .i64 1, .bool false] 131)).heap.size 3 RDev [.slice (some ⟨w.heap.size, 0, none⟩) 2 2] gpus := by
    have h := RS.blk (S := (· < (w.alloc (.cells #[.string gpu, .int .i64 0, .bool false, .string gpu, .int .i64 1, .bool false] 131)).heap.size)) (R := RDev) (C := 3) (f := Dev.cells) (l := gpus) kb (by unfold gpus; rfl) (by unfold gpus; simp [maxLen]) (fun _ _ => rfl) (fun x hx => ⟨rfl, by
      unfold gpus at hx
      rcases List.mem_cons.1 hx with rfl | hx
      · exact ⟨show (3 : Nat) ≤ maxLen from by simp [maxLen], by dsimp only; omega⟩
      · obtain rfl : x = _ := List.mem_singleton.1 hx
        exact ⟨show (3 : Nat) ≤ maxLen from by simp [maxLen], by dsimp only; omega⟩⟩) (by simp)
    have e : gpus.length = 2 := by unfold gpus; rfl
    rw [e] at h
    exact h
  have HRS := Lib.hid (DvNew_any _ gpus _ hrs)
  have HB0 := Lib.hid hb0
  clear kb hb0 hrs
  unfold gpu at HRS HB0
  refine HRS.out.mono ?_
  intro e w1 hP
  have hP2 : NewP gpus _ e w1 := hP
  rcases hP2 with ⟨h, _, _⟩ | ⟨_, bp, vl, vu, rfl, his, hbp, hb1⟩
  · exact absurd HN0.out h
  have HT := Lib.hid (Take_any _ bp vl vu gpus [false, false] gpu 1 2 (by omega) w1 (by
    have e : gpus.length = 2 := by unfold gpus; rfl
    rw [e] at his
    exact his))
  have HB1 := Lib.hid (HB0.out.trans (hb1.mono HB0.out.size))
  have HVU := Lib.hid (fun q (hq : vu.ownBlock = some q) => (his.ru.lt q hq).1)
  clear hP his hbp hb1 HRS HB0
  unfold gpu at HT
  go_wp2_with fail
  refine HT.out.mono ?_
  intro e w2 hP
  have hP2 : TakeP _ bp vl vu gpus [false, false] gpu 1 2 w1 e w2 := hP
  rcases hP2 with ⟨h, _, _⟩ | ⟨_, A, c, rfl, hown, his2, hk⟩
  · exact absurd HF0.out h
  rw [HL0.out] at hown ⊢
  have HOW := Lib.hid hown
  have HB2 := Lib.hid (show Below w.heap.size w w2 from HB1.out.trans (hk.below HB1.out.size (fun q hq hh => by
    have := HVU.out q hh
    simp at this
    omega)))
  clear hown his2 hk hP HT HB1
  go_wp2_with fail
  refine (same_yes 0 (by omega) _).mono ?_
  rintro e w3 ⟨rfl, rfl⟩
  have kb := Blk.new w2 3 #[.int .i64 1]
  have hb3 : Below w2.heap.size w2 (w2.alloc (.cells #[.int .i64 1] 3)) := (Below.refl _ _).alloc (Nat.le_refl _) _
  have hr1 := rs_own (own_below HOW.out hb3) (by intro x hx; obtain rfl := List.mem_singleton.1 hx; omega)
  have hr2 : RS (w2.alloc (.cells #[.int .i64 1] 3)) (fun b => b = w2.heap.size) 1 RInt [.slice (some ⟨w2.heap.size, 0, none⟩) 1 1] [1] :=
    RS.blk (f := fun x => [.int .i64 x]) (l := [(1 : Int)]) kb rfl (by simp [maxLen]) (fun _ _ => rfl) (fun x hx => ⟨rfl, by obtain rfl := List.mem_singleton.1 hx; omega⟩) rfl
  have HSN := Lib.hid (SameN_any _ _ [1] _ _ _ (by simp) hr1 hr2 (fun b hb => ((own_below HOW.out hb3).lt b hb).2) (fun b hb => by rw [hb]; simp))
  have HB3 := Lib.hid (HB2.out.trans (hb3.mono HB2.out.size))
  clear kb hb3 hr1 hr2 HB2
  go_wp2_with fail
  refine HSN.out.mono ?_
  rintro e w5 ⟨rfl, hb8⟩
  go_wp2_with fail
  go_ret
  exact ⟨rfl, HB3.out.trans (hb8.mono HB3.out.size)⟩
end
end Go.Proofs.Yticmfflnenoplaa
