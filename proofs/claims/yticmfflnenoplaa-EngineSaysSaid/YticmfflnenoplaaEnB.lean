/- Containers that run: slices.Clone of numbers, copied. No statement is proved here. -/
import Derived.Test.YticmfflnenoplaaEnA
namespace Go.Proofs.Yticmfflnenoplaa
open Go.RowKit
theorem intT9 : ElemT Try.prog 30 3 (.int .i64 0) 1 8 := ⟨Try.underlying30, by kernel_rfl, rfl, by omega⟩
set_option maxRecDepth 100000 in
set_option maxHeartbeats 1000000 in
/-- slices.Clone: the same elements, in memory of the call's own. -/
theorem CloneI (A : Option Addr) (n c : Nat) (news : List Value) (w : World) (hn : n ≤ 1000000) (hl : news.length = n * 1) (hA : A = none → n = 0) (hc : 0 < n → ∃ b off, A = some ⟨b, off, none⟩ ∧ ∀ (j : Nat) (u : Value), news[j]? = some u → w.cell? ⟨b, off + j, none⟩ = some u) (h1 : ∀ u ∈ news, u.oneCell' = true) :
    Calls Try.prog 152 #[.slice A n c] w (fun e w' => ∃ A' c', e = .returned (.slice A' n c') ∧ w'.ownsRow w.heap.size 3 1 (.slice A' n c') n news ∧ Below w.heap.size w w') := by
  obtain ⟨i0, hi0, hz0, hz1, hz2⟩ := info_parts intT9.hi
  cases A with
  | none =>
    obtain rfl := hA rfl
    obtain rfl : news = [] := List.eq_nil_of_length_eq_zero (by simpa using hl)
    have q22 : ∀ (w : World) (a : Option Addr) (n c n' c' : Nat), (binOp .eql 30 (.slice a n c) (.slice none n' c')).run Try.prog w = .ok (.bool a.isNone) w := fun w a n c n' c' => Lib.run_eql_slice_nil w _ _ a n c n' c' Try.underlying30
    clear hc
    go_enter Try.func152, Try.ntmps152
    go_wp2_with fail
    go_ret
    exact ⟨none, 0, rfl, World.ownsRow_nil _ _ _ _, Below.refl _ _⟩
  | some a =>
    have q22 : ∀ (w : World) (a : Option Addr) (n c n' c' : Nat), (binOp .eql 30 (.slice a n c) (.slice none n' c')).run Try.prog w = .ok (.bool a.isNone) w := fun w a n c n' c' => Lib.run_eql_slice_nil w _ _ a n c n' c' Try.underlying30
    have HC := Lib.hid hc
    have HL := Lib.hid hl
    have H1 := Lib.hid h1
    clear hA hc hl h1
    have hcs : Hid (∀ (j : Nat) (u : Value), news[j]? = some u → (w.alloc (.cells #[] 3)).cell? (a.add j) = some u) := Lib.hid (by
      intro j u hu
      have hp : 0 < n := by
        rcases Nat.eq_zero_or_pos n with h | h
        · have := (List.getElem?_eq_some_iff.1 hu).1
          have h2 := HL.out
          rw [h] at h2
          omega
        · exact h
      obtain ⟨b, off, he, hcc⟩ := HC.out hp
      obtain rfl := Option.some.inj he
      rw [Addr.add_lit]
      exact Lib.cell?_alloc_some _ (hcc j u hu))
    go_enter Try.func152, Try.ntmps152
    go_wp2_with (at_builtin; refine wpList_append_own _ rfl _ _ 30 rfl w.heap.size 3 i0 _ 1 _ Try.underlying30 hi0 hz0 hz1 hz2 rfl (by decide) _ _ _ rfl (World.ownsRow_made w #[] 0 (Nat.le_refl _) (Nat.zero_le _) rfl) a n c news rfl ?qc1 ?qc2 ?qc3 ?qc4 ?qc5 ?qc6 ?_)
    case qc1 => exact HL.out
    case qc2 => exact hcs.out
    case qc3 => exact H1.out
    case qc4 => unfold maxLen; omega
    case qc5 => omega
    case qc6 => simp
    intro v' w1 hown hgrow hnil
    go_wp2
    go_ret
    obtain ⟨A', c', hv', _⟩ := own_form hown
    subst hv'
    refine ⟨A', c', ?_, by simpa using hown, ?_⟩
    · simp
    · exact ((Below.refl _ w).alloc (Nat.le_refl _) _).grown hgrow (by simp) (by intro k hk; simp [Value.ownBlock] at hk; omega)

theorem own_base {w : World} {b b' : Nat} {e : TypeId} {size n : Nat} {v : Value} {xs : List Value} (h : w.ownsRow b e size v n xs) (hb : b' ≤ b) : w.ownsRow b' e size v n xs := by
  refine ⟨h.1, ?_⟩
  rcases h.2 with h2 | ⟨g, cap, cur, h1, h2, h3⟩
  · exact .inl h2
  · exact .inr ⟨g, cap, cur, h1, Nat.le_trans hb h2, h3⟩
/-- Numbers that are read, in a block of the kind S. -/
def RdI (w : World) (S : Nat → Prop) (A : Option Addr) (l : List Int) : Prop :=
  (A = none → l.length = 0) ∧ (0 < l.length → ∃ b off, A = some ⟨b, off, none⟩ ∧ S b ∧ b < w.heap.size ∧ ∀ (j : Nat) (u : Value), (En.intsV l)[j]? = some u → w.cell? ⟨b, off + j, none⟩ = some u)
theorem RdI.move {w w' : World} {S S' : Nat → Prop} {A : Option Addr} {l : List Int} (h : RdI w S A l) (hz : w.heap.size ≤ w'.heap.size) (hw : ∀ b, S b → b < w.heap.size → w'.heap[b]? = w.heap[b]?) (hS : ∀ b, S b → S' b) : RdI w' S' A l :=
  ⟨h.1, fun hp => by
    obtain ⟨b, off, h1, h2, h3, h4⟩ := h.2 hp
    exact ⟨b, off, h1, hS b h2, by omega, fun j u hu => (World.cell?_of_block (w := w) (a := ⟨b, off + j, none⟩) (hw b h2 h3)).trans (h4 j u hu)⟩⟩
theorem RdI.below {w w' : World} {S : Nat → Prop} {A : Option Addr} {l : List Int} (h : RdI w S A l) (hb : Below w.heap.size w w') : RdI w' S A l := h.move hb.size (fun b _ hlt => hb.block b hlt) (fun _ h => h)
theorem RdI.own {w : World} {base : Nat} {A : Option Addr} {c : Nat} {l : List Int} (h : w.ownsRow base 3 1 (.slice A l.length c) l.length (En.intsV l)) : RdI w (fun _ => True) A l := by
  obtain ⟨A', c', he, h1, h2, h3⟩ := own_form h
  simp only [Value.slice.injEq, true_and] at he
  obtain ⟨rfl, rfl⟩ := he
  refine ⟨?_, fun hp => ?_⟩
  · rintro rfl
    rcases Nat.eq_zero_or_pos l.length with h | h
    · exact h
    · obtain ⟨g, hg, _⟩ := h3 h
      cases hg
  · obtain ⟨g, rfl, hg, _⟩ := h3 hp
    refine ⟨g, 0, rfl, trivial, hg, fun j u hu => ?_⟩
    have hj : j < l.length := by
      have := (List.getElem?_eq_some_iff.1 hu).1
      simpa [En.intsV] using this
    rw [Nat.zero_add, h.cellAt j (by omega), hu]
theorem intsV_len (l : List Int) : (En.intsV l).length = l.length * 1 := by simp [En.intsV]
theorem intsV_one (l : List Int) : ∀ u ∈ En.intsV l, u.oneCell' = true := by
  intro u hu
  obtain ⟨x, _, rfl⟩ := List.mem_map.1 hu
  rfl
def CopP (p c : ByteArray) (x : Int) (l : List Int) (w : World) (e : Ending) (w' : World) : Prop :=
  ∃ A' c', e = .returned (.agg #[.string p, .string c, .int .u64 x, .slice A' l.length c']) ∧ w'.ownsRow w.heap.size 3 1 (.slice A' l.length c') l.length (En.intsV l) ∧ Below w.heap.size w w'
set_option maxRecDepth 100000 in
set_option maxHeartbeats 1000000 in
theorem copied_any (p c : ByteArray) (x : Int) (A : Option Addr) (dc : Nat) (l : List Int) (S : Nat → Prop) (w : World) (hn : l.length ≤ 1000000) (hr : RdI w S A l) :
    Calls Try.prog 133 #[.agg #[.string p, .string c, .int .u64 x, .slice A l.length dc]] w (CopP p c x l w) := by
  have hb0 : Below w.heap.size w ((w.alloc (.cells #[.string p, .string c, .int .u64 x, .slice A l.length dc] 117)).alloc (.cells #[.string ⟨#[]⟩, .string ⟨#[]⟩, .int .u64 0, .slice none 0 0] 117)) := ((Below.refl _ _).alloc (Nat.le_refl _) _).alloc (by simp) _
  have k1 : Blk ((w.alloc (.cells #[.string p, .string c, .int .u64 x, .slice A l.length dc] 117)).alloc (.cells #[.string ⟨#[]⟩, .string ⟨#[]⟩, .int .u64 0, .slice none 0 0] 117)) w.heap.size 117 #[.string p, .string c, .int .u64 x, .slice A l.length dc] := (Blk.new w _ _).alloc _
  have hsz : w.heap.size + 2 = ((w.alloc (.cells #[.string p, .string c, .int .u64 x, .slice A l.length dc] 117)).alloc (.cells #[.string ⟨#[]⟩, .string ⟨#[]⟩, .int .u64 0, .slice none 0 0] 117)).heap.size := by simp
  have k2 : Blk ((w.alloc (.cells #[.string p, .string c, .int .u64 x, .slice A l.length dc] 117)).alloc (.cells #[.string ⟨#[]⟩, .string ⟨#[]⟩, .int .u64 0, .slice none 0 0] 117)) (w.heap.size + 1) 117 #[.string ⟨#[]⟩, .string ⟨#[]⟩, .int .u64 0, .slice none 0 0] := by
    have := Blk.new (w.alloc (.cells #[.string p, .string c, .int .u64 x, .slice A l.length dc] 117)) 117 #[.string ⟨#[]⟩, .string ⟨#[]⟩, .int .u64 0, .slice none 0 0]
    simpa using this
  have hr0 := hr.below hb0
  have H0 := Lib.hid hb0
  have HS := Lib.hid hsz
  have HC := Lib.hid (CloneI A l.length dc (En.intsV l) _ hn (intsV_len l) hr0.1 (fun hp => by obtain ⟨b, off, h1, _, _, h4⟩ := hr0.2 hp; exact ⟨b, off, h1, h4⟩) (intsV_one l))
  clear hr hr0 hb0 hsz
  go_enter Try.func133, Try.ntmps133
  go_upto_region 1 with fail
  generalize (w.alloc (.cells #[.string p, .string c, .int .u64 x, .slice A l.length dc] 117)).alloc (.cells #[.string ⟨#[]⟩, .string ⟨#[]⟩, .int .u64 0, .slice none 0 0] 117) = w0 at *
  have hl1 := k1.lt
  have hl2 := k2.lt
  have e1 := k1.cells
  go_wp2_with fail
  refine HC.out.mono ?_
  rintro e w1 ⟨A', c', rfl, hown, hb1⟩
  have j1 := k1.below hb1 hl1
  have j2 := k2.below hb1 hl2
  have f1 := j1.cells
  have f2 := j2.cells
  have z1 := j1.frozens
  have z2 := j2.frozens
  have HO := Lib.hid hown
  have HB := Lib.hid hb1
  clear e1 hown hb1 k1 k2 hl1 hl2 j1 j2
  go_wp2_with fail
  refine bodyPost_ret (v := .agg #[.string p, .string c, .int .u64 x, .slice A' l.length c']) (by simp [results, Try.results133, go_sem, f2]) rfl ⟨A', c', rfl, ?_, ?_⟩
  · have hk : Kept (fun k => k = w.heap.size ∨ k = w.heap.size + 1) w1 (((((w1.setCell ⟨w.heap.size, 3, none⟩ (.slice A' l.length c')).setCell ⟨w.heap.size + 1, 0, none⟩ (.string p)).setCell ⟨w.heap.size + 1, 1, none⟩ (.string c)).setCell ⟨w.heap.size + 1, 2, none⟩ (.int .u64 x)).setCell ⟨w.heap.size + 1, 3, none⟩ (.slice A' l.length c')) :=
      (((((Kept.refl _ _).setCell (.inl (.inl rfl)) _).setCell (.inl (.inr rfl)) _).setCell (.inl (.inr rfl)) _).setCell (.inl (.inr rfl)) _).setCell (.inl (.inr rfl)) _
    refine own_base (own_kept HO.out hk fun g hg h => ?_) (by have := HS.out; omega)
    have := (HO.out.lt g hg).1
    have := HS.out
    omega
  · have h1 := H0.out.trans (HB.out.mono (by have := HS.out; omega))
    exact ((((h1.setCell (by simp) _).setCell (by simp) _).setCell (by simp) _).setCell (by simp) _).setCell (by simp) _
end Go.Proofs.Yticmfflnenoplaa
