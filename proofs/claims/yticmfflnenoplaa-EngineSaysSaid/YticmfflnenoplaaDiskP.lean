/- The program's disk: each of its functions does what the plain machine Dk does. -/
import Derived.Test.YticmfflnenoplaaDiskM
namespace Go.Proofs.Yticmfflnenoplaa.DkP
open Go.RowKit Dk

def V (n : Int) : Value := if n = 0 then .nilIface else .iface 161 (.int .i64 n)

set_option maxHeartbeats 400000 in
theorem apply_x (f d data : ByteArray) (th dr mv : Bool) (w : World) :
    Calls Try.prog 111 #[.agg #[.string f, .string d, .bool th, .bool dr], .agg #[.string data, .bool mv]] w fun e w' => e = .returned (.agg #[.string (apply ⟨f, d, th, dr⟩ ⟨data, mv⟩).file, .string (apply ⟨f, d, th, dr⟩ ⟨data, mv⟩).draft, .bool (apply ⟨f, d, th, dr⟩ ⟨data, mv⟩).there, .bool (apply ⟨f, d, th, dr⟩ ⟨data, mv⟩).drafted]) ∧ Below w.heap.size w w' := by
  cases mv
  all_goals
    unfold apply noText
    dsimp only
    go_enter Try.func111, Try.ntmps111
    go_wp2
    refine bodyPost_ret (v := .agg #[.string _, .string _, .bool _, .bool _]) (by simp [results, Try.results111, go_sem]) rfl ⟨rfl, ?_⟩
    exact (((Below.refl _ _).alloc (Nat.le_refl _) _).alloc (by simp) _).alloc (by simp; omega) _

set_option maxHeartbeats 400000 in
theorem step_dead (s : St) (b : Nat) (wv : Value) (w : World) (h : Is 160 165 w b wv s) (hd : dead s = true) :
    Calls Try.prog 23 #[.pointer (some ⟨b, 0, none⟩)] w (OpPost 160 165 b wv w (.iface 161 (.int .i64 11)) (stepDead s)) := by
  have hb := h.blk
  have hc := hb.cells
  have hf := hb.frozens
  obtain ⟨kept, now, wait, fuse, down⟩ := s
  unfold Dk.cells at hc
  dsimp only at hc
  cases down
  · obtain rfl : fuse = 0 := by simpa [dead] using hd
    go_enter Try.func23, Try.ntmps23
    go_wp2
    go_ret
    refine ⟨rfl, ?_⟩
    refine h.step ?_ rfl (((Kept.refl _ _).set1 _).set1 _) (by decide)
    exact (hb.set_ 10 _).set_ 9 _
  · go_enter Try.func23, Try.ntmps23
    go_wp2
    go_ret
    exact ⟨rfl, h.step (by simpa [Dk.cells, stepDead] using hb) rfl (Kept.refl _ _) (by decide)⟩

set_option maxHeartbeats 400000 in
theorem step_ok (s : St) (b : Nat) (wv : Value) (w : World) (hfu : -1 ≤ s.fuse) (hfu2 : s.fuse ≤ 9223372036854775807) (h : Is 160 165 w b wv s) (hd : dead s = false) :
    Calls Try.prog 23 #[.pointer (some ⟨b, 0, none⟩)] w (OpPost 160 165 b wv w .nilIface (stepOk s)) := by
  have hb := h.blk
  have hc := hb.cells
  have hf := hb.frozens
  obtain ⟨kept, now, wait, fuse, down⟩ := s
  unfold Dk.cells at hc
  dsimp only at hc hfu hfu2
  have hd' : down = false ∧ fuse ≠ 0 := by simpa [dead] using hd
  obtain ⟨rfl, h0⟩ := hd'
  have e0 : ((fuse : Int) == 0) = false := by simpa using h0
  clear hd
  by_cases h1 : 0 < fuse
  · go_enter Try.func23, Try.ntmps23
    go_wp2
    go_ret
    refine ⟨rfl, ?_⟩
    refine h.step ?_ rfl ((Kept.refl _ _).set1 _) (by decide)
    have := hb.set_ 9 (.int .i64 (fuse - 1))
    simpa [Dk.cells, stepOk, h1] using this
  · go_enter Try.func23, Try.ntmps23
    go_wp2
    go_ret
    refine ⟨rfl, ?_⟩
    refine h.step ?_ rfl (Kept.refl _ _) (by decide)
    simpa [Dk.cells, stepOk, show ¬ 0 < fuse from by omega] using hb

theorem changeT : ElemT Try.prog 158 165 (.agg #[.string noText, .bool false]) 2 24 := ⟨Try.underlying158, by kernel_rfl, rfl, by omega⟩
set_option maxHeartbeats 800000 in
theorem do_ok (s : St) (c : Change) (b : Nat) (wv : Value) (w : World) (hfu : -1 ≤ s.fuse) (hfu2 : s.fuse ≤ 9223372036854775807) (h : Is 160 165 w b wv s) (hd : dead s = false) (hwl : s.wait.length ≤ 1000) :
    Calls Try.prog 109 #[.pointer (some ⟨b, 0, none⟩), c.val] w (OpPost 160 165 b wv w .nilIface { stepOk s with now := apply s.now c, wait := s.wait ++ [c] }) := by
  obtain ⟨data, mv⟩ := c
  have hbw := h.blk.lt
  unfold Change.val
  dsimp only
  go_enter Try.func109, Try.ntmps109
  go_wp2_with fail
  refine (step_ok s b wv _ hfu hfu2 (h.alloc _) hd).mono ?_
  rintro e w1 ⟨rfl, wv1, hs1, hown1, hk1⟩
  have hbx1 : Blk w1 w.heap.size 165 #[.string data, .bool mv] := (Blk.new w _ _).kept hk1 (by
    rintro (x | x)
    · omega
    · exact absurd (h.own_lt x) (by omega))
  have hc1 := hs1.blk.cells
  have hf1 := hs1.blk.frozens
  have hx1 := hbx1.cells
  have hlt1 := hs1.blk.lt
  have hwl1 : (stepOk s).wait.length ≤ 1000 := hwl
  obtain ⟨s1, hS1⟩ : ∃ s1, Hid (stepOk s = s1) := ⟨_, rfl⟩
  rw [hS1.out] at hs1 hwl1 hc1
  obtain ⟨⟨kf, kd, kt, kr⟩, ⟨nf, nd, nt, nr⟩, wait, fuse, down⟩ := s1
  unfold Dk.cells at hc1
  dsimp only at hc1 hwl1
  go_upto_region 3 with fail
  go_cut [] (fun wx => Is 160 165 wx b wv1 ⟨⟨kf, kd, kt, kr⟩, apply ⟨nf, nd, nt, nr⟩ ⟨data, mv⟩, wait, fuse, down⟩ ∧ Kept (fun k => k = b) w1 wx)
  case first =>
    go_region_with (first | (go_at_call 111; refine (apply_x _ _ _ _ _ _ _).mono ?_; rintro e w2 ⟨rfl, hb2⟩; have hc2 := fun i => (hb2.cell (p := ⟨b, i, none⟩) hlt1).trans (hc1 i); have hf2 := fun i => (hb2.frozen (p := ⟨b, i, none⟩) hlt1).trans (hf1 i)))
    all_goals
      go_wp2_with fail
      go_meet
      have hk2 : Kept (fun k => k = b) w1 w2 := ((Kept.refl _ _).drew).then_ (Kept.of_below hb2) (fun _ _ h => h)
      have hb2' : Blk w2 b 160 _ := (hs1.blk.drew).below hb2 hlt1
      have hk3 := ((((hk2.set1 (i := 4) (.string (apply ⟨nf, nd, nt, nr⟩ ⟨data, mv⟩).file)).set1 (i := 5) (.string (apply ⟨nf, nd, nt, nr⟩ ⟨data, mv⟩).draft)).set1 (i := 6) (.bool (apply ⟨nf, nd, nt, nr⟩ ⟨data, mv⟩).there)).set1 (i := 7) (.bool (apply ⟨nf, nd, nt, nr⟩ ⟨data, mv⟩).drafted))
      refine ⟨⟨(((hb2'.set_ 4 _).set_ 5 _).set_ 6 _).set_ 7 _, ?_⟩, hk3⟩
      exact own_kept hs1.row hk3 fun g hg he => own_blk_ne hs1.row hs1.blk (by decide) (by rw [hg, he])
  case rest =>
    obtain ⟨hs2, hk2⟩ := hcut
    have hbx2 : Blk wc w.heap.size 165 #[.string data, .bool mv] := hbx1.kept hk2 (by omega)
    have hc2 := hs2.blk.cells
    have hf2 := hs2.blk.frozens
    have hx2 := hbx2.cells
    have hlt2 := hs2.blk.lt
    unfold Dk.cells at hc2
    dsimp only at hc2
    clear hc1 hf1 hx1
    have hro := hs2.row
    dsimp only at hro
    have hne2 : some b ≠ wv1.ownBlock := fun he => own_blk_ne hs2.row hs2.blk (by decide) he.symm
    go_wp2_with fail
    go_region_law (first | (refine step_app _ changeT rfl (.tmp 23) (.tmp 25) rfl 0 wv1 wait.length (flat wait) rfl (by exact hro.alloc _) ⟨wc.heap.size, 0, none⟩ 1 1 [.string data, .bool mv] rfl rfl (by exact news_new wc.drew _ _) (by simp [Value.oneCell']) (by omega) (by unfold maxLen; omega) (by omega) (Nat.zero_le _) ?_; intro g cap w3 hown3 hg3 hat3 hlt3; have hb3 := Blk.grown (g := b) (t := 160) (cs := cells ⟨⟨kf, kd, kt, kr⟩, apply ⟨nf, nd, nt, nr⟩ ⟨data, mv⟩, wait, fuse, down⟩ wv1) (by exact hs2.blk.alloc _) hg3 hne2; have hc3 := hb3.cell 8; have hf3 := hb3.frozen 8; unfold Dk.cells at hc3))
    all_goals
      go_wp2_with fail
      go_ret
      have hk3 : Kept (Fp b wv1) w1 w3 := by
        refine (((hk2.mono fun k hk => (.inl hk : Fp b wv1 k)).drew).alloc _).grown hg3 fun k hk => ?_
        exact .inl (.inr hk)
      have hk4 : Kept (Fp b wv1) w1 _ := hk3.setCell (p := ⟨b, 8, none⟩) (.inl (.inl rfl)) (.slice (some ⟨g, 0, none⟩) (wait.length + 1) cap)
      have hne4 : (Value.slice (some ⟨g, 0, none⟩) (wait.length + 1) cap).ownBlock ≠ some b := own_blk_ne hown3 hb3 (by decide)
      have hblk4 := hb3.set_ 8 (.slice (some ⟨g, 0, none⟩) (wait.length + 1) cap)
      have hS2 := hS1.out
      rw [show ({ stepOk s with now := apply s.now ⟨data, mv⟩, wait := s.wait ++ [⟨data, mv⟩] } : St) = { (stepOk s) with now := apply (stepOk s).now ⟨data, mv⟩, wait := (stepOk s).wait ++ [⟨data, mv⟩] } from rfl, hS2]
      refine ⟨rfl, ?_⟩
      refine Dk.After.trans ((Kept.refl _ _).alloc (.cells #[.string data, .bool mv] 165)) (.inl rfl) ?_
      refine Dk.After.trans hk1 hown1 ⟨_, ⟨hblk4, ?_⟩, ?_, hk4⟩
      · have := own_kept (S := fun k => k = b) hown3 ((Kept.refl _ _).set1 (i := 8) (.slice (some ⟨g, 0, none⟩) (wait.length + 1) cap)) (fun k hk he => hne4 (by rw [hk, he]))
        simpa [flat, Change.cells] using this
      · rcases hat3 with hat3 | hat3
        · exact .inl (by rw [hat3]; rfl)
        · refine .inr fun k hk => ?_
          have hk' : g = k := by simpa [Value.ownBlock] using hk
          have h1 := hk2.size
          have h2 : g = wc.heap.size + 1 := by simpa using hat3
          omega


set_option maxHeartbeats 400000 in
theorem do_dead (s : St) (c : Change) (b : Nat) (wv : Value) (w : World) (h : Is 160 165 w b wv s) (hd : dead s = true) :
    Calls Try.prog 109 #[.pointer (some ⟨b, 0, none⟩), c.val] w (OpPost 160 165 b wv w (.iface 161 (.int .i64 11)) (stepDead s)) := by
  obtain ⟨data, mv⟩ := c
  unfold Change.val
  dsimp only
  go_enter Try.func109, Try.ntmps109
  go_wp2_with fail
  refine (step_dead s b wv _ (h.alloc _) hd).mono ?_
  rintro e w1 ⟨rfl, ha⟩
  go_wp2_with fail
  go_ret
  exact ⟨rfl, Dk.After.trans ((Kept.refl _ _).alloc _) (.inl rfl) ha⟩

set_option maxHeartbeats 400000 in
theorem sync_dead (s : St) (b : Nat) (wv : Value) (w : World) (h : Is 160 165 w b wv s) (hd : dead s = true) :
    Calls Try.prog 21 #[.pointer (some ⟨b, 0, none⟩)] w (OpPost 160 165 b wv w (.iface 161 (.int .i64 11)) (stepDead s)) := by
  go_enter Try.func21, Try.ntmps21
  go_wp2_with fail
  refine (step_dead s b wv _ h hd).mono ?_
  rintro e w1 ⟨rfl, ha⟩
  go_wp2_with fail
  go_ret
  exact ⟨rfl, ha⟩

set_option maxHeartbeats 400000 in
theorem sync_ok (s : St) (b : Nat) (wv : Value) (w : World) (hfu : -1 ≤ s.fuse) (hfu2 : s.fuse ≤ 9223372036854775807) (h : Is 160 165 w b wv s) (hd : dead s = false) :
    Calls Try.prog 21 #[.pointer (some ⟨b, 0, none⟩)] w (OpPost 160 165 b wv w .nilIface { stepOk s with kept := s.now, wait := [] }) := by
  go_enter Try.func21, Try.ntmps21
  go_wp2_with fail
  refine (step_ok s b wv _ hfu hfu2 h hd).mono ?_
  rintro e w1 ⟨rfl, wv1, hs1, hown1, hk1⟩
  have hb := hs1.blk
  have hc := hb.cells
  have hf := hb.frozens
  unfold Dk.cells at hc
  go_wp2_with fail
  go_ret
  refine ⟨rfl, Dk.After.trans hk1 hown1 ⟨.slice none 0 0, ⟨?_, World.ownsRow_nil _ _ _ _⟩, .inr (by simp [Value.ownBlock]), ?_⟩⟩
  · exact ((((hb.set_ 0 _).set_ 1 _).set_ 2 _).set_ 3 _).set_ 8 _
  · exact ((((((Kept.refl _ _).set1 (g := b) (i := 0) _).set1 (i := 1) _).set1 (i := 2) _).set1 (i := 3) _).set1 (i := 8) _).mono fun k hk => .inl hk

set_option maxHeartbeats 400000 in
theorem read_any (s : St) (b : Nat) (wv : Value) (w : World) (h : Is 160 165 w b wv s) :
    Calls Try.prog 30 #[.pointer (some ⟨b, 0, none⟩)] w fun e w' => e = .returned (.tuple #[.string (readS s).1, V (readS s).2]) ∧ w = w' := by
  have hc := h.blk.cells
  obtain ⟨kept, ⟨nf, nd, nt, nr⟩, wait, fuse, down⟩ := s
  unfold Dk.cells at hc
  dsimp only at hc
  cases down <;> cases nt
  all_goals
    go_enter Try.func30, Try.ntmps30
    go_wp2
    go_ret2
    exact ⟨rfl, rfl⟩

set_option maxHeartbeats 400000 in
theorem spoil_any (s : St) (t : ByteArray) (b : Nat) (wv : Value) (w : World) (ht : t.size ≤ 9223372036854775807) (h : Is 160 165 w b wv s) :
    Calls Try.prog 26 #[.pointer (some ⟨b, 0, none⟩), .string t] w (OpPost 160 165 b wv w (.tuple #[]) (spoilS s t)) := by
  have hb := h.blk
  have hc := hb.cells
  have hf := hb.frozens
  unfold Dk.cells at hc
  by_cases hlt : t.size ≤ 6000
  · go_enter Try.func26, Try.ntmps26
    go_wp2
    go_end0
    refine ⟨rfl, ?_⟩
    refine h.step ?_ (by simp [spoilS]; split <;> rfl) (((((Kept.refl _ _).set1 (g := b) (i := 0) _).set1 (i := 2) _).set1 (i := 4) _).set1 (i := 6) _) (by decide)
    have := (((hb.set_ 0 (.string t)).set_ 2 (.bool true)).set_ 4 (.string t)).set_ 6 (.bool true)
    simpa [spoilS, hlt, Dk.cells] using this
  · go_enter Try.func26, Try.ntmps26
    go_wp2
    first | go_end0 | refine bodyPost_ret (results_none rfl _ _ _) rfl ?_
    refine ⟨rfl, ?_⟩
    rw [show spoilS s t = s by simp [spoilS, show ¬ t.size ≤ 6000 from by omega]]
    exact Dk.After.same h

set_option maxHeartbeats 400000 in
theorem write_long (s : St) (t : ByteArray) (b : Nat) (wv : Value) (w : World) (ht : t.size ≤ 9223372036854775807) (hl : 6000 < t.size) (h : Is 160 165 w b wv s) :
    Calls Try.prog 17 #[.pointer (some ⟨b, 0, none⟩), .string t] w (OpPost 160 165 b wv w (.iface 161 (.int .i64 2)) s) := by
  go_enter Try.func17, Try.ntmps17
  go_wp2
  go_ret
  exact ⟨rfl, Dk.After.same h⟩

set_option maxHeartbeats 400000 in
theorem write_short (s : St) (t : ByteArray) (b : Nat) (wv : Value) (w : World) (hfu : -1 ≤ s.fuse) (hfu2 : s.fuse ≤ 9223372036854775807) (hl : t.size ≤ 6000) (hwl : s.wait.length ≤ 1000) (h : Is 160 165 w b wv s) :
    Calls Try.prog 17 #[.pointer (some ⟨b, 0, none⟩), .string t] w (OpPost 160 165 b wv w (if dead s = true then (.iface 161 (.int .i64 11)) else .nilIface) (doS s ⟨t, false⟩).2) := by
  cases hd : dead s
  · rw [doS_ok hd]
    have H := do_ok s ⟨t, false⟩ b wv w hfu hfu2 h hd hwl
    go_enter Try.func17, Try.ntmps17
    go_wp2_with fail
    refine H.mono ?_
    rintro e w1 ⟨rfl, ha⟩
    go_wp2_with fail
    go_ret
    exact ⟨rfl, ha⟩
  · rw [doS_dead hd]
    have H := do_dead s ⟨t, false⟩ b wv w h hd
    go_enter Try.func17, Try.ntmps17
    go_wp2_with fail
    refine H.mono ?_
    rintro e w1 ⟨rfl, ha⟩
    go_wp2_with fail
    go_ret
    exact ⟨rfl, ha⟩

set_option maxHeartbeats 400000 in
theorem move_none (s : St) (b : Nat) (wv : Value) (w : World) (hl : s.now.drafted = false) (h : Is 160 165 w b wv s) :
    Calls Try.prog 19 #[.pointer (some ⟨b, 0, none⟩)] w (OpPost 160 165 b wv w (.iface 161 (.int .i64 6)) s) := by
  have hc := h.blk.cells
  unfold Dk.cells at hc
  rw [hl] at hc
  go_enter Try.func19, Try.ntmps19
  go_wp2
  go_ret
  exact ⟨rfl, Dk.After.same h⟩

set_option maxHeartbeats 400000 in
theorem move_some (s : St) (b : Nat) (wv : Value) (w : World) (hfu : -1 ≤ s.fuse) (hfu2 : s.fuse ≤ 9223372036854775807) (hl : s.now.drafted = true) (hwl : s.wait.length ≤ 1000) (h : Is 160 165 w b wv s) :
    Calls Try.prog 19 #[.pointer (some ⟨b, 0, none⟩)] w (OpPost 160 165 b wv w (if dead s = true then (.iface 161 (.int .i64 11)) else .nilIface) (doS s ⟨noText, true⟩).2) := by
  have hc := h.blk.cells
  unfold Dk.cells at hc
  rw [hl] at hc
  cases hd : dead s
  · rw [doS_ok hd]
    have H := do_ok s ⟨noText, true⟩ b wv w hfu hfu2 h hd hwl
    go_enter Try.func19, Try.ntmps19
    go_wp2_with fail
    refine H.mono ?_
    rintro e w1 ⟨rfl, ha⟩
    go_wp2_with fail
    go_ret
    exact ⟨rfl, ha⟩
  · rw [doS_dead hd]
    have H := do_dead s ⟨noText, true⟩ b wv w h hd
    go_enter Try.func19, Try.ntmps19
    go_wp2_with fail
    refine H.mono ?_
    rintro e w1 ⟨rfl, ha⟩
    go_wp2_with fail
    go_ret
    exact ⟨rfl, ha⟩

set_option maxHeartbeats 400000 in
theorem new_any (w : World) :
    Calls Try.prog 14 #[] w fun e w' => ∃ b, e = .returned (.pointer (some ⟨b, 0, none⟩)) ∧ Is 160 165 w' b (.slice none 0 0) new ∧ b = w.heap.size ∧ Below w.heap.size w w' := by
  go_enter Try.func14, Try.ntmps14
  go_wp2
  go_ret
  exact ⟨w.heap.size, rfl, ⟨Blk.new _ _ _, World.ownsRow_nil _ _ _ _⟩, rfl, (Below.refl _ _).alloc (Nat.le_refl _) _⟩
end Go.Proofs.Yticmfflnenoplaa.DkP

