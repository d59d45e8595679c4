/- TopTree: plain facts: no container may have more than its pod. And the slice of those that are good. No statement is proved here. -/
import Derived.Test.YticmfflnenoplabQosK
import Derived.Test.YticmfflnenoplabQosM
import Derived.Test.YticmfflnenoplabQosN
namespace Go.Proofs.Yticmfflnenoplab
open Go.RowKit Qo Da
theorem podT : ElemT Try.prog 64 53 (.agg #[.string ⟨#[]⟩, .int .i64 0, .slice none 0 0]) 3 48 := ⟨Try.underlying64, by kernel_rfl, rfl, by omega⟩
def GoodsIn (w : World) (B : Nat) (G : List (List Value × Pod)) : Prop := ∀ x, x ∈ G → x.1.length = 3 ∧ RPod w B x.1 x.2 ∧ GoodP x.2
theorem goods_slice {w0 w : World} {B base : Nat} {hv : Value} {G : List (List Value × Pod)} (hown : w.ownsRow base 53 3 hv G.length (G.flatMap Prod.fst)) (hG : GoodsIn w0 B G) (hb : Below B w0 w) (hB : B ≤ w.heap.size) : RSlice w w.heap.size 3 (RPod w w.heap.size) [hv] (G.map Prod.snd) := by
  have h := RS.own (S := (· < w.heap.size)) (R := fun cs x => cs = x.1 ∧ RPod w w.heap.size x.1 x.2) (f := Prod.fst) hown (fun x hx => (hG x hx).1) (fun x hx => ⟨rfl, ((hG x hx).2.1.below hb).mono hB⟩) (fun g hg => (hown.lt g hg).2)
  obtain ⟨A, cap, e, h1, h2, h3⟩ := h
  refine ⟨A, cap, by rw [e]; simp, by simpa using h1, h2, ?_⟩
  rcases h3 with h3 | ⟨b, off, hA, hlt, h3⟩
  · exact .inl (by simpa using h3)
  · refine .inr ⟨b, off, hA, hlt, fun i hi => ?_⟩
    obtain ⟨cs', q1, q2, q3, q4⟩ := h3 i (by simpa using hi)
    exact ⟨cs', q1, q2, by rw [q3]; simpa using q4⟩
theorem goods_all {w : World} {B : Nat} {G : List (List Value × Pod)} (hG : GoodsIn w B G) : ∀ k (hk : k < (G.map Prod.snd).length), GoodP (G.map Prod.snd)[k] := by
  intro k hk
  have := (hG _ (List.getElem_mem (show k < G.length by simpa using hk))).2.2
  simpa using this
theorem goods_snoc {w : World} {B : Nat} {G : List (List Value × Pod)} (hG : GoodsIn w B G) {x : List Value × Pod} (h : x.1.length = 3 ∧ RPod w B x.1 x.2 ∧ GoodP x.2) : GoodsIn w B (G ++ [x]) := by
  intro y hy
  rcases List.mem_append.1 hy with hy | hy
  · exact hG y hy
  · obtain rfl : y = x := by simpa using hy
    exact h
theorem groups_same {w : World} {base : Nat} {hv : Value} {l : List Gr} (h : w.ownsRow base 69 4 hv l.length (flatG l)) : RS w (· < w.heap.size) 4 RG [hv] l :=
  RS.own (f := Gr.cells) h (fun _ _ => rfl) (fun _ _ => rfl) (fun g hg => (h.lt g hg).2)
namespace Qo
theorem sumF_ge (f : Cont → Int) (l : List Cont) (h : ∀ k (hk : k < l.length), 0 ≤ f l[k]) (n : Nat) (hn : n ≤ l.length) : 0 ≤ sumF f l n ∧ ∀ k (hk : k < l.length), k < n → f l[k] ≤ sumF f l n := by
  induction n with
  | zero => exact ⟨Int.le_refl _, fun k _ hk => by omega⟩
  | succ n ih =>
    obtain ⟨h1, h2⟩ := ih (by omega)
    have h3 := h n (by omega)
    rw [sumF_succ f l n (by omega)]
    refine ⟨by omega, fun k hk hkn => ?_⟩
    by_cases he : k = n
    · subst he; omega
    · have := h2 k hk (by omega)
      omega
theorem hasK_all (f : Cont → Int) (l : List Cont) (h : hasK f l l.length = true) (k : Nat) (hk : k < l.length) : 0 < f l[k] := by
  unfold hasK at h
  rw [List.take_length, List.all_eq_true] at h
  simpa using h _ (List.getElem_mem hk)
theorem capF_ge (f : Cont → Int) (l : List Cont) (h : ∀ k (hk : k < l.length), 0 ≤ f l[k]) (hp : 0 < capF f l) (k : Nat) (hk : k < l.length) : 0 < f l[k] ∧ f l[k] ≤ capF f l := by
  cases hh : hasK f l l.length
  · rw [capF_no hh] at hp; omega
  · rw [capF_yes hh]
    exact ⟨hasK_all f l hh k hk, (sumF_ge f l h l.length (Nat.le_refl _)).2 k hk hk⟩
theorem shares_mono {a b : Int} (h : a ≤ b) : shares a ≤ shares b := by
  unfold shares
  have : a * 1024 / 1000 ≤ b * 1024 / 1000 := Int.ediv_le_ediv (by omega) (by omega)
  split <;> split <;> (try split) <;> (try split) <;> omega
theorem quota_pos {a : Int} (h0 : 0 ≤ a) (h : 0 < quota a) : 0 < a := by
  unfold quota at h
  split at h <;> omega
theorem quota_mono {a b : Int} (h0 : 0 < a) (h : a ≤ b) : 0 ≤ quota a ∧ (quota a ≤ quota b ∨ quota a ≤ 1000) := by
  unfold quota
  split
  · omega
  · split
    · omega
    · split
      · omega
      · split <;> omega
/-- What a container's group may be, beside its pod's. -/
structure Under (g c : Gr) : Prop where
  len : g.path.size < c.path.size
  pre : c.path.extract 0 g.path.size = g.path
  sh : c.sh ≤ g.sh
  by_ : 0 < g.by_ → c.by_ ≠ 0 ∧ c.by_ ≤ g.by_
  qu : 0 < g.qu → 0 ≤ c.qu ∧ (c.qu ≤ g.qu ∨ c.qu ≤ 1000)
theorem ext_app (a b : ByteArray) : (a ++ b).extract 0 a.size = a := by
  rw [ByteArray.extract_append]
  simp
theorem under_of {p : Pod} (h : GoodP p) (k : Nat) (hk : k < p.conts.length) : Under (podG p) (contG p p.conts[k]) := by
  refine ⟨?_, ?_, ?_, ?_, ?_⟩
  · show (pathP p).size < ((pathP p ++ ⟨#[47]⟩) ++ p.conts[k].name).size
    rw [ByteArray.size_append, ByteArray.size_append]
    have : (⟨#[47]⟩ : ByteArray).size = 1 := rfl
    omega
  · show ((pathP p ++ ⟨#[47]⟩) ++ p.conts[k].name).extract 0 (pathP p).size = pathP p
    rw [ByteArray.append_assoc]
    exact ext_app _ _
  · exact shares_mono ((sumF_ge Cont.askM p.conts (fun k hk => (h.all k hk).aM.1) _ (Nat.le_refl _)).2 k hk hk)
  · intro hp
    have := capF_ge Cont.capB p.conts (fun k hk => (h.all k hk).cB.1) hp k hk
    exact ⟨by show p.conts[k].capB ≠ 0; omega, this.2⟩
  · intro hp
    have hpos : 0 < capF Cont.capM p.conts := quota_pos (capF_le h).1.1 hp
    have := capF_ge Cont.capM p.conts (fun k hk => (h.all k hk).cM.1) hpos k hk
    exact quota_mono this.1 this.2
theorem grs_split (l : List Pod) (i : Nat) (hi : i < l.length) : grs l = grK l i ++ (podK l[i] l[i].conts.length ++ (l.drop (i + 1)).flatMap fun p => podK p p.conts.length) := by
  have : l = l.take i ++ (l[i] :: l.drop (i + 1)) := by simp
  conv => lhs; unfold grs grK; rw [List.take_length]
  unfold grK
  rw [List.append_assoc]
  congr 1
  conv => lhs; rw [this]
  rw [List.flatMap_append, List.flatMap_cons]
def at0 (l : List Pod) (i : Nat) : Nat := (grK l i).length
theorem at0_zero (l : List Pod) : at0 l 0 = 2 := by simp [at0, grK_zero]
theorem at0_next (l : List Pod) (i : Nat) (hi : i < l.length) : at0 l (i + 1) = at0 l i + 1 + l[i].conts.length := by
  unfold at0
  rw [grK_next l i hi, List.length_append, podK_len _ _ (Nat.le_refl _)]
  omega
theorem at0_full (l : List Pod) : at0 l l.length = (grs l).length := rfl
theorem at0_lt (l : List Pod) (i : Nat) (hi : i < l.length) : at0 l i + l[i].conts.length < (grs l).length := by
  rw [grs_split l i hi, List.length_append, List.length_append, podK_len _ _ (Nat.le_refl _)]
  unfold at0
  omega
theorem grs_pod (l : List Pod) (i : Nat) (hi : i < l.length) : (grs l)[at0 l i]? = some (podG l[i]) := by
  rw [grs_split l i hi]
  unfold at0
  rw [List.getElem?_append_right (Nat.le_refl _), Nat.sub_self]
  simp [podK]
theorem grs_cont (l : List Pod) (i : Nat) (hi : i < l.length) (k : Nat) (hk : k < l[i].conts.length) : (grs l)[at0 l i + 1 + k]? = some (contG l[i] l[i].conts[k]) := by
  rw [grs_split l i hi]
  unfold at0
  rw [List.getElem?_append_right (by omega), show (grK l i).length + 1 + k - (grK l i).length = k + 1 by omega]
  rw [List.getElem?_append_left (by rw [podK_len _ _ (Nat.le_refl _)]; omega)]
  simp [podK, hk]
theorem under_at (l : List Pod) (hg : ∀ k (hk : k < l.length), GoodP l[k]) (i : Nat) (hi : i < l.length) (k : Nat) (hk : k < l[i].conts.length) : ∃ g c, (grs l)[at0 l i]? = some g ∧ (grs l)[at0 l i + 1 + k]? = some c ∧ Under g c :=
  ⟨_, _, grs_pod l i hi, grs_cont l i hi k hk, under_of (hg i hi) k hk⟩
end Qo
end Go.Proofs.Yticmfflnenoplab
