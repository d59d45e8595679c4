/- The engine: Start: its walk. No statement is proved here. -/
import Derived.Test.YticmfflnenoplaaEnB
namespace Go.Proofs.Yticmfflnenoplaa
open Go.RowKit Dk
namespace En
/-- A container that runs, without its place in memory. -/
structure PR where
  pod : ByteArray
  cont : ByteArray
  cpus : Int
  devs : List Int
def Run.pr (r : Run) : PR := ⟨r.pod, r.cont, r.cpus, r.devs⟩
def isP (r : PR) (p c : ByteArray) : Bool := (r.pod.toList == p.toList) && (r.cont.toList == c.toList)
def gtP (r : PR) (p c : ByteArray) : Bool := gtS r.pod p || ((r.pod.toList == p.toList) && gtS r.cont c)
def atP (p c : ByteArray) : List PR → Nat × Bool
  | [] => (0, false)
  | r :: l => if isP r p c then (0, true) else if gtP r p c then (0, false) else ((atP p c l).1 + 1, (atP p c l).2)
theorem atK_pr (p c : ByteArray) (l : List Run) : atK p c l = atP p c (l.map Run.pr) := by
  induction l with
  | nil => rfl
  | cons r l ih =>
    simp only [atK, atP, List.map_cons, ih]
    rfl
def startP (s : St) (l : List PR) (r : PR) : Int × St × List PR :=
  if dead s then (11, stepDead s, l) else if (atP r.pod r.cont l).2 then (5, stepOk s, l) else (0, stepOk s, l.take (atP r.pod r.cont l).1 ++ r :: l.drop (atP r.pod r.cont l).1)
def stopP (s : St) (l : List PR) (p c : ByteArray) : Int × St × List PR :=
  if dead s then (11, stepDead s, l) else if (atP p c l).2 then (0, stepOk s, l.take (atP p c l).1 ++ l.drop ((atP p c l).1 + 1)) else (6, stepOk s, l)
theorem startP_dead {s : St} {l : List PR} {r : PR} (h : dead s = true) : startP s l r = (11, stepDead s, l) := by simp [startP, h]
theorem startP_is {s : St} {l : List PR} {r : PR} (h : dead s = false) (hi : (atP r.pod r.cont l).2 = true) : startP s l r = (5, stepOk s, l) := by simp [startP, h, hi]
theorem startP_new {s : St} {l : List PR} {r : PR} (h : dead s = false) (hi : (atP r.pod r.cont l).2 = false) : startP s l r = (0, stepOk s, l.take (atP r.pod r.cont l).1 ++ r :: l.drop (atP r.pod r.cont l).1) := by simp [startP, h, hi]
theorem stopP_dead {s : St} {l : List PR} {p c : ByteArray} (h : dead s = true) : stopP s l p c = (11, stepDead s, l) := by simp [stopP, h]
theorem stopP_is {s : St} {l : List PR} {p c : ByteArray} (h : dead s = false) (hi : (atP p c l).2 = true) : stopP s l p c = (0, stepOk s, l.take (atP p c l).1 ++ l.drop ((atP p c l).1 + 1)) := by simp [stopP, h, hi]
theorem stopP_none {s : St} {l : List PR} {p c : ByteArray} (h : dead s = false) (hi : (atP p c l).2 = false) : stopP s l p c = (6, stepOk s, l) := by simp [stopP, h, hi]
end En
theorem own_own_ne9 {w : World} {base base' : Nat} {e e' : TypeId} {size size' n n' : Nat} {v v' : Value} {xs xs' : List Value} (h : w.ownsRow base e size v n xs) (h' : w.ownsRow base' e' size' v' n' xs') (hne : e ≠ e') {g : Nat} (hg : v.ownBlock = some g) : v'.ownBlock ≠ some g := by
  rcases h.2 with ⟨rfl, _⟩ | ⟨g', cap, cur, rfl, _, hh, _⟩
  · simp [Value.ownBlock] at hg
  · obtain rfl : g' = g := by simpa [Value.ownBlock] using hg
    exact own_blk_ne h' (t := e) (cs := cur) hh (Ne.symm hne)
theorem Dk.Is.congr {T e : TypeId} {w : World} {b : Nat} {wv : Value} {s s' : St} (h : Dk.Is T e w b wv s) (hs : s' = s) : Dk.Is T e w b wv s' := hs ▸ h
/-- A step of the disk leaves the engine as it was. -/
theorem En.Is.step {w w' : World} {base be bd : Nat} {v wv : Value} {l : List En.Run} {s : St} (h : En.Is w base be bd v l) (hd : Dk.Is 160 165 w bd wv s) (hk : Kept (Fp bd wv) w w') : En.Is w' base be bd v l := by
  refine h.kept hk ?_ ?_ ?_
  · rintro (hx | hx)
    · exact Blk.ne_ h.blk hd.blk (by decide) hx
    · exact own_blk_ne hd.row h.blk (by decide) hx
  · rintro g hg (hx | hx)
    · exact own_blk_ne h.row hd.blk (by decide) (by rw [hg, hx])
    · exact own_own_ne9 h.row hd.row (by decide) hg hx
  · rintro r hr g hg (hx | hx)
    · exact own_blk_ne (h.devs r hr) hd.blk (by decide) (by rw [hg, hx])
    · exact own_own_ne9 (h.devs r hr) hd.row (by decide) hg hx
/-- After a call of the engine. -/
def EnP (base be bd : Nat) (wv v : Value) (r : Int × St × List En.PR) (w : World) (e : Ending) (w' : World) : Prop :=
  ∃ wv' v' l', e = .returned (errV r.1) ∧ Dk.Is 160 165 w' bd wv' r.2.1 ∧ (wv'.ownBlock = wv.ownBlock ∨ ∀ k, wv'.ownBlock = some k → w.heap.size ≤ k) ∧ En.Is w' base be bd v' l' ∧ l'.map En.Run.pr = r.2.2 ∧ (v'.ownBlock = v.ownBlock ∨ ∀ k, v'.ownBlock = some k → w.heap.size ≤ k) ∧ Kept (fun k => Fp bd wv k ∨ k = be ∨ v.ownBlock = some k) w w'
theorem V_err (n : Int) : DkP.V n = errV n := rfl
theorem EnP.same {base be bd : Nat} {wv wv' v : Value} {f : Int} {s' : St} {l : List En.Run} {w w' : World} (hd : Dk.Is 160 165 w' bd wv' s') (ho : wv'.ownBlock = wv.ownBlock ∨ ∀ k, wv'.ownBlock = some k → w.heap.size ≤ k) (he : En.Is w' base be bd v l) (hk : Kept (Fp bd wv) w w') {r : Int × St × List En.PR} (hr : r = (f, s', l.map En.Run.pr)) {x : Value} (hx : x = errV f) :
    EnP base be bd wv v r w (.returned x) w' := by
  subst hr hx
  exact ⟨wv', v, l, rfl, hd, ho, he, rfl, .inl rfl, hk.mono fun k h => .inl h⟩
set_option maxRecDepth 100000 in
set_option maxHeartbeats 2000000 in
theorem Start_any (base be bd : Nat) (wv v : Value) (s : St) (l : List En.Run) (r : En.Run) (w : World) (hd : Dk.Is 160 165 w bd wv s) (hfu : -1 ≤ s.fuse) (hfu2 : s.fuse ≤ 9223372036854775807) (h : En.Is w base be bd v l) (hb : base ≤ w.heap.size) (hl : l.length < 10000) (hn : r.devs.length ≤ 1000000) (hr : RdI w (fun b => ¬ Fp bd wv b) r.dA r.devs) :
    Calls Try.prog 77 #[.pointer (some ⟨be, 0, none⟩), .agg #[.string r.pod, .string r.cont, .int .u64 r.cpus, .slice r.dA r.devs.length r.dc]] w (EnP base be bd wv v (En.startP s (l.map En.Run.pr) r.pr) w) := by
  obtain ⟨rp, rc, rx, rd, rA, rdc⟩ := r
  dsimp only at hn hr
  have HVB : Hid (∀ k, v.ownBlock = some k → k < w.heap.size) := Lib.hid fun k hk => (h.row.lt k hk).2
  have hb0 : Below w.heap.size w (w.alloc (.cells #[.string rp, .string rc, .int .u64 rx, .slice rA rd.length rdc] 117)) := (Below.refl _ _).alloc (Nat.le_refl _) _
  have kp := Blk.new w 117 #[.string rp, .string rc, .int .u64 rx, .slice rA rd.length rdc]
  have hd0 := hd.alloc (.cells #[.string rp, .string rc, .int .u64 rx, .slice rA rd.length rdc] 117)
  have h0 := h.below hb0
  have hr0 := hr.below hb0
  have hK0 : Kept (Fp bd wv) w (w.alloc (.cells #[.string rp, .string rc, .int .u64 rx, .slice rA rd.length rdc] 117)) := (Kept.refl _ _).alloc _
  have hsz : (w.alloc (.cells #[.string rp, .string rc, .int .u64 rx, .slice rA rd.length rdc] 117)).heap.size = w.heap.size + 1 := by simp
  have HZ := Lib.hid hsz
  have HK0 := Lib.hid hK0
  have HST := Lib.hid (DkP.step_any s bd wv _ hfu hfu2 hd0)
  have HD0 := Lib.hid hd0
  have HR0 := Lib.hid hr0
  clear hd hb0 h hr hd0 hr0 hK0 hsz
  have e0 := h0.blk.cells
  go_enter Try.func77, Try.ntmps77
  go_upto_region 1 with fail
  generalize w.alloc (.cells #[.string rp, .string rc, .int .u64 rx, .slice rA rd.length rdc] 117) = w0 at *
  have hlp := kp.lt
  go_wp2_with fail
  refine HST.out.mono ?_
  rintro e w1 ⟨rfl, wv1, hd1, ho1, hk1⟩
  have h1 := h0.step HD0.out hk1
  have kp1 : Blk w1 w.heap.size 117 #[.string rp, .string rc, .int .u64 rx, .slice rA rd.length rdc] := kp.kept hk1 (by
    rintro (hx | hx)
    · exact Blk.ne_ kp HD0.out.blk (by decide) hx
    · exact own_blk_ne HD0.out.row kp (by decide) hx)
  have hr1 : RdI w1 (fun _ => True) rA rd := HR0.out.move hk1.size (fun b hS hlt => hk1.block b hlt hS) (fun _ _ => trivial)
  have hK1 : Kept (Fp bd wv) w w1 := HK0.out.then_ hk1 (fun _ _ h => h)
  have ho : wv1.ownBlock = wv.ownBlock ∨ ∀ k, wv1.ownBlock = some k → w.heap.size ≤ k := by
    rcases ho1 with h | h
    · exact .inl h
    · exact .inr fun k hk => by have := h k hk; have := HZ.out; omega
  have HD1 := Lib.hid hd1
  have HK1 := Lib.hid hK1
  have HO1 := Lib.hid ho
  have HR1 := Lib.hid hr1
  rw [V_err]
  clear hd1 hk1 ho1 ho HD0 HR0 HST hK1 hr1 e0 h0 kp HK0
  cases hdd : dead s
  · have HS1 := Lib.hid (stepS_ok hdd)
    rw [HS1.out] at HD1 ⊢
    have HDD := Lib.hid hdd
    clear hdd
    dsimp only at HD1 ⊢
    rw [errV_0]
    have e1 := kp1.cells
    have hlp1 := kp1.lt
    have HAT := Lib.hid (at_any base be bd v l rp rc w1 h1)
    have HAL := Lib.hid (En.atK_le rp rc l)
    have HPR := Lib.hid (En.atK_pr rp rc l)
    go_wp2_with fail
    refine HAT.out.mono ?_
    rintro e w2 ⟨rfl, hb2⟩
    have h2 := h1.below hb2
    have kp2 := kp1.below hb2 hlp1
    have hd2 := HD1.out.kept (S := fun _ => False) (Kept.of_below hb2) (fun h => h) (fun _ _ h => h)
    have hr2 := HR1.out.below hb2
    have hk2 : Kept (Fp bd wv) w w2 := HK1.out.thenB hb2
    have HD2 := Lib.hid hd2
    have HK2 := Lib.hid hk2
    have HR2 := Lib.hid hr2
    have HE2 := Lib.hid h2
    have hw2 : w.heap.size ≤ w2.heap.size := hk2.size
    clear hd2 hk2 hr2 h1 hb2 HAT e1 hlp1 kp1 HD1 HK1 HR1 HS1
    obtain ⟨hi1, hi2⟩ := HAL.out
    obtain ⟨⟨i, is⟩, hi⟩ : ∃ x, En.atK rp rc l = x := ⟨_, rfl⟩
    rw [hi] at HPR hi1 hi2 ⊢
    have HPR2 := Lib.hid HPR.out.symm
    clear hi HAL HPR
    dsimp only at hi1 hi2
    cases is
    · have hsp : En.startP s (l.map En.Run.pr) (En.Run.pr ⟨rp, rc, rx, rd, rA, rdc⟩) = (0, stepOk s, (l.map En.Run.pr).take i ++ ⟨rp, rc, rx, rd⟩ :: (l.map En.Run.pr).drop i) := by
        rw [En.startP_new HDD.out (by show (En.atP rp rc (l.map En.Run.pr)).2 = false; rw [HPR2.out])]
        show (0, stepOk s, (l.map En.Run.pr).take (En.atP rp rc (l.map En.Run.pr)).1 ++ _ :: (l.map En.Run.pr).drop (En.atP rp rc (l.map En.Run.pr)).1) = _
        rw [HPR2.out]
        rfl
      have HSP := Lib.hid hsp
      clear hsp
      have HNE1 : Hid (v.ownBlock ≠ some be) := Lib.hid (own_blk_ne h2.row h2.blk (by decide))
      have kb := h2.blk
      go_upto_region 7 with fail
      have hI : Blk w2.drew be 194 #[.pointer (some ⟨bd, 0, none⟩), v] ∧ Blk w2.drew w.heap.size 117 #[.string rp, .string rc, .int .u64 rx, .slice rA rd.length rdc] := ⟨kb.drew, kp2.drew⟩
      refine Flo.region 10 [(0, true), (1, true), (2, true), (3, true), (4, true), (5, true), (6, true), (7, false), (8, false), (9, false)] (fun v' => Blk v' be 194 #[.pointer (some ⟨bd, 0, none⟩), v] ∧ Blk v' w.heap.size 117 #[.string rp, .string rc, .int .u64 rx, .slice rA rd.length rdc]) (by kernel_rfl) (by kernel_rfl) rfl hI ?_
      simp only [List.drop_succ_cons, List.drop_zero]
      iterate 7 (apply Flo.op rfl (hI := hI); (· intro v' hv' K hK; obtain ⟨k1, k2⟩ := hv'; have c1 := k1.cells; have c2 := k2.cells; clear k1 k2; go_wp2_with fail; exact hK); (· rfl))
      refine Flo.seq rfl fun K hK => ?_
      go_wp2_with fail
      refine (copied_any rp rc rx rA rdc rd (fun _ => True) w2.drew hn HR2.out).mono ?_
      rintro e w3 ⟨A', c', rfl, hown3, hb3⟩
      have hb3' : Below w2.heap.size w2 w3 := ⟨hb3.os, hb3.tape, hb3.output, hb3.size, hb3.block⟩
      have kb3 := kb.below hb3' kb.lt
      have kp3 := kp2.below hb3' kp2.lt
      have ho3 := own_below h2.row hb3'
      have HOW := Lib.hid hown3
      have HB3 := Lib.hid hb3'
      have hs3 : w2.heap.size ≤ w3.heap.size := hb3'.size
      clear hown3 hb3 hb3' hI
      go_wp2_with fail
      refine hK _ _ ⟨kb3, kp3⟩ ?_
      clear hK
      refine Flo.seq rfl fun K hK => ?_
      go_wp2_with fail
      have kn := Blk.new w3 117 #[.string rp, .string rc, .int .u64 rx, .slice A' rd.length c']
      have kb4 := kb3.alloc (.cells #[.string rp, .string rc, .int .u64 rx, .slice A' rd.length c'] 117)
      have kp4 := kp3.alloc (.cells #[.string rp, .string rc, .int .u64 rx, .slice A' rd.length c'] 117)
      have ho4 : (w3.alloc (.cells #[.string rp, .string rc, .int .u64 rx, .slice A' rd.length c'] 117)).ownsRow base 117 4 v l.length (En.flatR l) := ho3.alloc _
      have hne4 : v.ownBlock ≠ some w3.heap.size := fun he => by
        have := (ho3.lt w3.heap.size he).2
        omega
      have HIN := Lib.hid (Insert_own base l.length i v (En.flatR l) [.string rp, .string rc, .int .u64 rx, .slice A' rd.length c'] w3.heap.size _ ho4 (by simp; omega) hi1 kn hne4 rfl (by simp [Value.oneCell']) (En.flatR_one l) (by omega))
      refine hK _ _ ⟨kb4, kp4⟩ ?_
      clear hK kb3 kp3 ho3 hne4 kn
      refine Flo.seq rfl fun K hK => ?_
      go_wp2_with fail
      refine HIN.out.mono ?_
      rintro e w5 ⟨g, cap, rfl, hown5, hgr, hat, hlt5⟩
      have kb5 := kb4.grown hgr (Ne.symm HNE1.out)
      have kp5 := kp4.grown hgr (fun he => by have := HVB.out _ he.symm; omega)
      go_wp2_with fail
      refine hK _ _ ⟨kb5, kp5⟩ ?_
      clear hK
      refine Flo.tail fun K hK => ?_
      have e5 := kb5.cells
      have z5 := kb5.frozens
      have HG := Lib.hid hgr
      have HO5 := Lib.hid hown5
      have HKB := Lib.hid kb5
      have HO4 := Lib.hid ho4
      clear HIN hgr hown5 kb5 kp5 kb4 kp4 ho4
      go_wp2_with fail
      go_ret
      rw [HSP.out]
      have hgr := HG.out
      have hk3 : Kept (fun k => k = be ∨ v.ownBlock = some k) w3 (w5.setCell ⟨be, 1, none⟩ (.slice (some ⟨g, 0, none⟩) (l.length + 1) cap)) :=
        (((Kept.refl _ _).alloc _).grown hgr (fun k hk => .inl (.inr hk))).setCell (.inl (.inl rfl)) _
      have hk2 : Kept (fun k => k = be ∨ v.ownBlock = some k) w2 (w5.setCell ⟨be, 1, none⟩ (.slice (some ⟨g, 0, none⟩) (l.length + 1) cap)) := (Kept.of_below HB3.out).trans hk3
      have hgv : g ≠ be := by
        rintro rfl
        exact own_blk_ne HO5.out HKB.out (by decide) rfl
      refine ⟨wv1, .slice (some ⟨g, 0, none⟩) (l.length + 1) cap, l.take i ++ ⟨rp, rc, rx, rd, A', c'⟩ :: l.drop i, rfl, ?_, HO1.out, ?_, ?_, ?_, ?_⟩
      · refine HD2.out.kept hk2 ?_ ?_
        · rintro (hx | hx)
          · exact Blk.ne_ HD2.out.blk h2.blk (by decide) hx
          · exact own_blk_ne h2.row HD2.out.blk (by decide) hx
        · rintro q hq (hx | hx)
          · exact own_blk_ne HD2.out.row h2.blk (by decide) (by rw [hq, hx])
          · exact own_own_ne9 HD2.out.row h2.row (by decide) hq hx
      · have hlen : (l.take i ++ (⟨rp, rc, rx, rd, A', c'⟩ : En.Run) :: l.drop i).length = l.length + 1 := by simp; omega
        refine ⟨HKB.out.set_ 1 _, ?_, ?_, by omega⟩
        · rw [hlen]
          have := own_kept (S := fun k => k = be) HO5.out ((Kept.refl _ _).set1 (i := 1) (.slice (some ⟨g, 0, none⟩) (l.length + 1) cap)) (fun q hq he => by
            have : g = q := by simpa [Value.ownBlock] using hq
            omega)
          rw [← En.flatR_ins l i hi1]
          exact this
        · intro r hr
          rcases List.mem_append.1 hr with hr | hr
          · exact own_kept (h2.devs r (List.mem_of_mem_take hr)) hk2 (fun q hq hx => by
              rcases hx with hx | hx
              · exact own_blk_ne (h2.devs r (List.mem_of_mem_take hr)) h2.blk (by decide) (by rw [hq, hx])
              · exact own_own_ne9 (h2.devs r (List.mem_of_mem_take hr)) h2.row (by decide) hq hx)
          · rcases List.mem_cons.1 hr with rfl | hr
            · refine own_kept (own_base HOW.out (show base ≤ w2.heap.size by omega)) hk3 (fun q hq hx => ?_)
              have hq2 := (HOW.out.lt q hq).1
              have hbl := h2.blk.lt
              rcases hx with hx | hx
              · have : w2.drew.heap.size = w2.heap.size := rfl
                omega
              · have := HVB.out q hx
                have : w2.drew.heap.size = w2.heap.size := rfl
                omega
            · exact own_kept (h2.devs r (List.mem_of_mem_drop hr)) hk2 (fun q hq hx => by
                rcases hx with hx | hx
                · exact own_blk_ne (h2.devs r (List.mem_of_mem_drop hr)) h2.blk (by decide) (by rw [hq, hx])
                · exact own_own_ne9 (h2.devs r (List.mem_of_mem_drop hr)) h2.row (by decide) hq hx)
      · simp [En.Run.pr]
      · rcases hat with hat | hat
        · exact .inl (by rw [hat]; rfl)
        · refine .inr fun k hk => ?_
          have : g = k := by simpa [Value.ownBlock] using hk
          simp at hat
          omega
      · exact (HK2.out.mono fun k h => .inl h).then_ hk2 (fun k _ h => by
          rcases h with h | h
          · exact .inr (.inl h)
          · exact .inr (.inr h))
    · go_wp2_with fail
      go_ret
      exact EnP.same (f := 5) HD2.out HO1.out HE2.out HK2.out (by rw [En.startP_is HDD.out (by show (En.atP rp rc (l.map En.Run.pr)).2 = true; rw [HPR2.out])]) (by rw [errV_pos 5 (by omega)]; rfl)
  · have HS1 := Lib.hid (stepS_dead hdd)
    rw [HS1.out] at HD1 ⊢
    dsimp only at HD1 ⊢
    rw [errV_pos 11 (by omega)]
    go_wp2_with fail
    go_ret
    exact EnP.same (f := 11) HD1.out HO1.out h1 HK1.out (by rw [En.startP_dead hdd]) (by rw [errV_pos 11 (by omega)]; rfl)
end Go.Proofs.Yticmfflnenoplaa
