/- EngineSays: what stands in memory, what each call leaves of it; the closed fact. No statement is proved here. -/
import Derived.Test.YticmfflnenoplaaEnE
import Derived.Test.YticmfflnenoplaaEnF
import Derived.Test.YticmfflnenoplaaDiskL
namespace Go.Proofs.Yticmfflnenoplaa
open Go.RowKit Dk
/-- What is written is of these types alone. -/
def Only (ts : List TypeId) (w : World) (S : Nat → Prop) : Prop := ∀ k, S k → ∃ t cs, t ∈ ts ∧ Blk w k t cs
section
variable {ts : List TypeId} {w w' : World} {S : Nat → Prop}
theorem own_is {base : Nat} {e : TypeId} {size n : Nat} {v : Value} {xs : List Value} (h : w.ownsRow base e size v n xs) {g : Nat} (hg : v.ownBlock = some g) : ∃ cs, Blk w g e cs := by
  rcases h.2 with ⟨rfl, _⟩ | ⟨g', cap, cur, rfl, _, hh, _⟩
  · simp [Value.ownBlock] at hg
  · obtain rfl : g' = g := by simpa [Value.ownBlock] using hg
    exact ⟨cur, hh⟩
theorem Only.blk (ho : Only ts w S) {g : Nat} {t : TypeId} {cs : Array Value} (h : Blk w g t cs) (hn : t ∉ ts) : ¬ S g := fun hs => by
  obtain ⟨t', cs', h1, h2⟩ := ho g hs
  exact Blk.ne_ h h2 (fun he => hn (by rw [he]; exact h1)) rfl
theorem Only.own (ho : Only ts w S) {base : Nat} {e : TypeId} {size n : Nat} {v : Value} {xs : List Value} (h : w.ownsRow base e size v n xs) (hn : e ∉ ts) : ∀ g, v.ownBlock = some g → ¬ S g := fun g hg => by
  obtain ⟨cs, hb⟩ := own_is h hg
  exact ho.blk hb hn
theorem Only.fp {T e : TypeId} {b : Nat} {wv : Value} {s : St} (h : Dk.Is T e w b wv s) : Only [T, e] w (Fp b wv) := by
  rintro k (rfl | hk)
  · exact ⟨T, _, by simp, h.blk⟩
  · obtain ⟨cs, hb⟩ := own_is h.row hk
    exact ⟨e, cs, by simp, hb⟩
theorem Only.none (w : World) : Only [] w (fun _ => False) := fun _ h => h.elim
theorem Dk.Is.only {T e : TypeId} {b : Nat} {wv : Value} {s : St} (h : Dk.Is T e w b wv s) (hk : Kept S w w') (ho : Only ts w S) (h1 : T ∉ ts) (h2 : e ∉ ts) : Dk.Is T e w' b wv s := h.kept hk (ho.blk h.blk h1) (ho.own h.row h2)
theorem En.Is.only {base be bd : Nat} {v : Value} {l : List En.Run} (h : En.Is w base be bd v l) (hk : Kept S w w') (ho : Only ts w S) (h1 : 194 ∉ ts) (h2 : 117 ∉ ts) (h3 : 3 ∉ ts) : En.Is w' base be bd v l :=
  h.kept hk (ho.blk h.blk h1) (ho.own h.row h2) (fun r hr => ho.own (h.devs r hr) h3)
end
def nmX : ByteArray := ⟨#[120]⟩
def nmY : ByteArray := ⟨#[121]⟩
def nmZ : ByteArray := ⟨#[122, 122]⟩
/-- What stands in memory between two acts. -/
structure ES (w0 w : World) (bd be bm bn : Nat) (s r : St) (lr : List En.Run) (v7 : Value) (wvd wvm v : Value) (l : List En.Run) : Prop where
  d : Dk.Is DT DE w bd wvd s
  m : Dk.Is RT RE w bm wvm r
  e : En.Is w w0.heap.size be bd v l
  row : w.ownsRow w0.heap.size 117 4 v7 lr.length (En.flatR lr)
  pr : l.map En.Run.pr = lr.map En.Run.pr
  devs : ∀ x ∈ lr, RdI w0 (fun _ => True) x.dA x.devs ∧ x.devs.length ≤ 30
  names : Blk w bn 9 #[.string nmX, .string nmY, .string nmZ]
  apart : ∀ g, v.ownBlock = some g → v7.ownBlock ≠ some g
  hbd : w0.heap.size ≤ bd
  hbe : w0.heap.size ≤ be
  hbm : w0.heap.size ≤ bm
  hd : ∀ g, wvd.ownBlock = some g → w0.heap.size ≤ g
  hm : ∀ g, wvm.ownBlock = some g → w0.heap.size ≤ g
  bel : Below w0.heap.size w0 w
section
variable {w0 w w' : World} {bd be bm bn : Nat} {s s' r r' : St} {lr : List En.Run} {v7 wvd wvm v : Value} {l : List En.Run}
theorem ES.after (h : ES w0 w bd be bm bn s r lr v7 wvd wvm v l) {S : Nat → Prop} (hk : Kept S w w') (hs : ∀ k, S k → w0.heap.size ≤ k) : Below w0.heap.size w0 w' :=
  h.bel.trans (hk.below h.bel.size (fun k hlt hS => by have := hs k hS; omega))
theorem ES.below (h : ES w0 w bd be bm bn s r lr v7 wvd wvm v l) (hb : Below w.heap.size w w') : ES w0 w' bd be bm bn s r lr v7 wvd wvm v l :=
  have hk := Kept.of_below hb
  have ho := Only.none w
  ⟨h.d.only hk ho (by simp) (by simp), h.m.only hk ho (by simp) (by simp), h.e.only hk ho (by simp) (by simp) (by simp), own_below h.row hb, h.pr, h.devs, h.names.below hb h.names.lt, h.apart, h.hbd, h.hbe, h.hbm, h.hd, h.hm, h.bel.trans (hb.mono h.bel.size)⟩
theorem ES.onD (h : ES w0 w bd be bm bn s r lr v7 wvd wvm v l) (ha : After DT DE bd wvd s' w w') : ∃ wvd', ES w0 w' bd be bm bn s' r lr v7 wvd' wvm v l ∧ Kept (Fp bd wvd) w w' := by
  obtain ⟨wv', h1, ho, hk⟩ := ha
  have hn := Only.fp h.d
  refine ⟨wv', ⟨h1, h.m.only hk hn (by decide) (by decide), h.e.only hk hn (by decide) (by decide) (by decide), own_kept h.row hk (hn.own h.row (by decide)), h.pr, h.devs, h.names.kept hk (hn.blk h.names (by decide)), h.apart, h.hbd, h.hbe, h.hbm, ?_, h.hm, h.after hk ?_⟩, hk⟩
  · intro g hg
    rcases ho with ho | ho
    · exact h.hd g (ho ▸ hg)
    · exact Nat.le_trans h.bel.size (ho g hg)
  · rintro k (rfl | hx)
    · exact h.hbd
    · exact h.hd k hx
theorem ES.onM (h : ES w0 w bd be bm bn s r lr v7 wvd wvm v l) (ha : After RT RE bm wvm r' w w') : ∃ wvm', ES w0 w' bd be bm bn s r' lr v7 wvd wvm' v l ∧ Kept (Fp bm wvm) w w' := by
  obtain ⟨wv', h1, ho, hk⟩ := ha
  have hn := Only.fp h.m
  refine ⟨wv', ⟨h.d.only hk hn (by decide) (by decide), h1, h.e.only hk hn (by decide) (by decide) (by decide), own_kept h.row hk (hn.own h.row (by decide)), h.pr, h.devs, h.names.kept hk (hn.blk h.names (by decide)), h.apart, h.hbd, h.hbe, h.hbm, h.hd, ?_, h.after hk ?_⟩, hk⟩
  · intro g hg
    rcases ho with ho | ho
    · exact h.hm g (ho ▸ hg)
    · exact Nat.le_trans h.bel.size (ho g hg)
  · rintro k (rfl | hx)
    · exact h.hbm
    · exact h.hm k hx
/-- Between the engine's call and the list's own change. -/
structure EM (w0 w : World) (bd be bm bn : Nat) (s r : St) (lr : List En.Run) (v7 : Value) (wvd wvm v : Value) (l : List En.Run) (lp : List En.PR) : Prop where
  d : Dk.Is DT DE w bd wvd s
  m : Dk.Is RT RE w bm wvm r
  e : En.Is w w0.heap.size be bd v l
  row : w.ownsRow w0.heap.size 117 4 v7 lr.length (En.flatR lr)
  pr : l.map En.Run.pr = lp
  devs : ∀ x ∈ lr, RdI w0 (fun _ => True) x.dA x.devs ∧ x.devs.length ≤ 30
  names : Blk w bn 9 #[.string nmX, .string nmY, .string nmZ]
  apart : ∀ g, v.ownBlock = some g → v7.ownBlock ≠ some g
  hbd : w0.heap.size ≤ bd
  hbe : w0.heap.size ≤ be
  hbm : w0.heap.size ≤ bm
  hd : ∀ g, wvd.ownBlock = some g → w0.heap.size ≤ g
  hm : ∀ g, wvm.ownBlock = some g → w0.heap.size ≤ g
  bel : Below w0.heap.size w0 w
theorem ES.onE (h : ES w0 w bd be bm bn s r lr v7 wvd wvm v l) {f : Int} {lp : List En.PR} {e : Ending} (ha : EnP w0.heap.size be bd wvd v (f, s', lp) w e w') :
    e = .returned (errV f) ∧ ∃ wvd' v' l', EM w0 w' bd be bm bn s' r lr v7 wvd' wvm v' l' lp ∧ Kept (fun k => Fp bd wvd k ∨ k = be ∨ v.ownBlock = some k) w w' := by
  obtain ⟨wv', v', l', rfl, h1, ho, h2, h3, ho2, hk⟩ := ha
  have hn : Only [DT, DE, 194, 117] w (fun k => Fp bd wvd k ∨ k = be ∨ v.ownBlock = some k) := by
    rintro k (hx | rfl | hx)
    · obtain ⟨t, cs, ht, hb⟩ := Only.fp h.d k hx
      refine ⟨t, cs, ?_, hb⟩
      simp only [List.mem_cons, List.not_mem_nil, or_false] at ht ⊢
      rcases ht with rfl | rfl <;> simp
    · exact ⟨_, _, by simp, h.e.blk⟩
    · obtain ⟨cs, hb⟩ := own_is h.e.row hx
      exact ⟨_, cs, by simp, hb⟩
  refine ⟨rfl, wv', v', l', ⟨h1, h.m.only hk hn (by decide) (by decide), h2, own_kept h.row hk ?_, h3, h.devs, h.names.kept hk (hn.blk h.names (by decide)), ?_, h.hbd, h.hbe, h.hbm, ?_, h.hm, h.after hk ?_⟩, hk⟩
  · rintro g hg (hx | rfl | hx)
    · exact (Only.fp h.d).own h.row (by decide) g hg hx
    · exact own_blk_ne h.row h.e.blk (by decide) hg
    · exact h.apart g hx hg
  · intro g hg hg7
    rcases ho2 with ho2 | ho2
    · exact h.apart g (ho2 ▸ hg) hg7
    · have h5 := ho2 g hg
      have h6 := (h.row.lt g hg7).2
      omega
  · intro g hg
    rcases ho with ho | ho
    · exact h.hd g (ho ▸ hg)
    · exact Nat.le_trans h.bel.size (ho g hg)
  · rintro k (hx | rfl | hx)
    · rcases hx with rfl | hx
      · exact h.hbd
      · exact h.hd k hx
    · exact h.hbe
    · exact (h.e.row.lt k hx).1
theorem EM.es {lp : List En.PR} (h : EM w0 w bd be bm bn s r lr v7 wvd wvm v l lp) (hp : lp = lr.map En.Run.pr) : ES w0 w bd be bm bn s r lr v7 wvd wvm v l :=
  ⟨h.d, h.m, h.e, h.row, h.pr.trans hp, h.devs, h.names, h.apart, h.hbd, h.hbe, h.hbm, h.hd, h.hm, h.bel⟩
end
end Go.Proofs.Yticmfflnenoplaa
