/- Sets of processors: TopSet: its walk. No statement is proved here. -/
import Derived.Test.YticmfflnenoplacDoorBiZ
namespace Go.Proofs.YticmfflnenoplacDoor
open Go.RowKit Go.Deep Pop Bi Am
theorem cnt_le64 (a : Nat) : cnt a 64 ≤ 64 := by
  rw [← listF_cnt]
  exact listF_len a 64
theorem textB_eq {a b : Nat} (ha : a < 18446744073709551616) (hb : b < 18446744073709551616) : (textP a == textP b) = decide (a = b) := by
  rw [Bool.eq_iff_iff, beq_iff_eq, decide_eq_true_eq]
  exact text_inj ha hb
theorem rint_of {w : World} {base : Nat} {v : Value} {l : List Nat} (hl : ∀ n ∈ l, n < 64) (h : w.ownsRow base 3 1 v l.length (natV l)) : RS w (· < w.heap.size) 1 RInt [v] (l.map fun n : Nat => (n : Int)) :=
  RS.own (l := l.map fun n : Nat => (n : Int)) (f := fun n => [.int .i64 n]) (by
    have : ((l.map fun n : Nat => (n : Int)).flatMap fun n => [Value.int .i64 n]) = natV l := by unfold natV; rw [List.flatMap_map, List.map_eq_flatMap]
    rw [this, List.length_map]
    exact h) (fun _ _ => rfl) (fun n hn => by
      obtain ⟨m, hm, rfl⟩ := List.mem_map.1 hn
      have := hl m hm
      exact ⟨rfl, by omega, by omega⟩) (fun g hg => (h.lt g hg).2)
theorem listF_lt (a : Nat) : ∀ n ∈ listF a 64, n < 64 := fun n hn => by
  simp [listF] at hn
  exact hn.1
section
attribute [local irreducible] parseP textP ofP listF insF cnt
set_option maxRecDepth 100000 in
set_option maxHeartbeats 8000000 in
theorem TopSet_any (a b : Nat) (ha : a < 18446744073709551616) (hb : b < 18446744073709551616) (w : World) (hL : LayS w) : Calls Tryd.prog 3 #[.int .u64 a, .int .u64 b] w (RetBB true w) := by
  have H6 := Lib.hid (Text_any 6 (by omega) w hL)
  rw [text_six] at H6
  have HTA := Lib.hid (fun W (hW : Below w.heap.size w W) => Text_any a ha W (hL.below hW))
  have HTB := Lib.hid (fun W (hW : Below w.heap.size w W) => Text_any b hb W (hL.below hW))
  obtain ⟨hpt, hlen⟩ := parse_text ha
  have hpt2 : parseP (⟨(textP a).toArray⟩ : ByteArray).data.toList = (a, 0) := by simpa using hpt
  have hpa : ∀ W, Below w.heap.size w W → Calls Tryd.prog 5 #[.string ⟨(textP a).toArray⟩] W (fun e w' => e = .returned (.tuple #[.int .u64 a, .nilIface]) ∧ Below W.heap.size W w') := fun W hW => by
    have := Parse_any ⟨(textP a).toArray⟩ (by show (textP a).length ≤ 7000; omega) W (hL.below hW)
    rw [hpt2] at this
    exact this
  have HPA := Lib.hid hpa
  have HLA := Lib.hid (fun W (hW : Below w.heap.size w W) => List_any a ha W (hL.below hW))
  have hof : ∀ v S W, RS W S 1 RInt [v] ((listF a 64).map fun n : Nat => (n : Int)) → Calls Tryd.prog 6 #[v] W (fun e w' => e = .returned (.tuple #[.int .u64 a, .nilIface]) ∧ W = w') := fun v S W h => by
    have := Of_any v _ S W h
    rw [of_list ha] at this
    exact this
  have HOF := Lib.hid hof
  have HCA := Lib.hid (fun W => Count_any a ha W)
  have HCB := Lib.hid (fun W => Count_any b hb W)
  have hand := u64_and_nat a b ha hb
  have hor := u64_or_nat a b ha hb
  have hl1 : a &&& b < 18446744073709551616 := Nat.lt_of_le_of_lt Nat.and_le_left ha
  have HCN := Lib.hid (fun W => Count_any (a &&& b) hl1 W)
  have HCO := Lib.hid (fun W => Count_any (a ||| b) (or_lt ha hb) W)
  have HIN := Lib.hid (fun W => Inside_any (a &&& b) a hl1 ha W)
  rw [ins_and] at HIN
  have hsum := cnt_and_or a b 64
  have b1 := cnt_le64 a
  have b2 := cnt_le64 b
  have b3 := cnt_le64 (a &&& b)
  have b4 := cnt_le64 (a ||| b)
  have HEQ := Lib.hid (textB_eq ha hb)
  clear hpt hpt2 hL hpa hof hlen
  generalize (a &&& b : Nat) = ab at *
  generalize (a ||| b : Nat) = ao at *
  generalize cnt a 64 = ca at *
  generalize cnt b 64 = cb at *
  generalize cnt ab 64 = cab at *
  generalize cnt ao 64 = cao at *
  have hse : ((ca : Int) + cb == (cab : Int) + cao) = true := by simp; omega
  clear hsum
  generalize textP a = ta at *
  generalize textP b = tb at *
  go_enter Tryd.func3, Tryd.ntmps3
  go_wp2_with fail
  refine H6.out.mono ?_
  rintro e w1 ⟨rfl, hb1⟩
  clear H6
  go_wp2_with fail
  refine (HTA.out _ hb1).mono ?_
  rintro e w2 ⟨rfl, hb2⟩
  have hb2' := hb1.trans (hb2.mono hb1.size)
  clear hb2 hb1
  go_wp2_with fail
  refine (HPA.out _ hb2').mono ?_
  rintro e w3 ⟨rfl, hb3⟩
  have hb3' := hb2'.trans (hb3.mono hb2'.size)
  clear hb3 hb2'
  go_wp2_with fail
  refine (HLA.out _ hb3').mono ?_
  intro e w4 hP
  have hP2 : RetL (listF a 64) w3 e w4 := hP
  obtain ⟨A4, c4, rfl, ho4, hb4⟩ := hP2
  have HO4 := Lib.hid ho4
  have hb4' := hb3'.trans (hb4.mono hb3'.size)
  clear hP ho4 hb4 hb3'
  go_wp2_with fail
  refine (HOF.out _ _ _ (rint_of (listF_lt a) HO4.out)).mono ?_
  rintro e w5 ⟨rfl, rfl⟩
  clear HOF HO4 HPA HLA
  go_wp2_with fail
  refine (HTA.out _ hb4').mono ?_
  rintro e w5 ⟨rfl, hb5⟩
  have hb5' := hb4'.trans (hb5.mono hb4'.size)
  clear hb5 hb4'
  go_wp2_with fail
  refine (HTB.out _ hb5').mono ?_
  rintro e w6 ⟨rfl, hb6⟩
  have hb6' := hb5'.trans (hb6.mono hb5'.size)
  clear hb6 hb5' HTA HTB
  obtain ⟨v, e1, e2⟩ : ∃ v : Bool, (ta == tb) = v ∧ ((a : Int) == b) = v := by
    have h2 : ((a : Int) == b) = decide (a = b) := by
      rw [Bool.eq_iff_iff, beq_iff_eq, decide_eq_true_eq]
      omega
    exact ⟨_, HEQ.out, h2⟩
  go_wp2_with fail
  refine (HCA.out _).mono ?_
  rintro e w7 ⟨rfl, rfl⟩
  go_wp2_with fail
  refine (HCB.out _).mono ?_
  rintro e w7 ⟨rfl, rfl⟩
  go_wp2_with fail
  refine (HCN.out _).mono ?_
  rintro e w7 ⟨rfl, rfl⟩
  go_wp2_with fail
  refine (HCO.out _).mono ?_
  rintro e w7 ⟨rfl, rfl⟩
  go_wp2_with fail
  refine (HIN.out _).mono ?_
  rintro e w7 ⟨rfl, rfl⟩
  go_wp2_with fail
  go_ret
  exact ⟨by first | rfl | simp, hb6'⟩
end
end Go.Proofs.YticmfflnenoplacDoor
