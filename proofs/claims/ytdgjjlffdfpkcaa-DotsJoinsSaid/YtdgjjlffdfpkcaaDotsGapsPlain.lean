/- The gaps of a set: dots that are not there, ahead of others of their peers. -/
import Derived.Test.YtdgjjlffdfpkcaaDotsTot
namespace Go.Proofs.Ytdgjjlffdfpkcaa

namespace DS
/-- The dots of a peer from a count on, ahead of another one. -/
def rng (p : Int) (a b : Int) : List Dot := (List.range (b - a).toNat).map fun (i : Nat) => (p, a + (i : Int))
theorem mem_rng (p a b : Int) (x : Dot) : x ∈ rng p a b ↔ x.1 = p ∧ a ≤ x.2 ∧ x.2 < b := by
  unfold rng
  rw [List.mem_map]
  constructor
  · rintro ⟨i, hi, rfl⟩
    rw [List.mem_range] at hi
    exact ⟨rfl, by simp only; omega, by simp only; omega⟩
  · rintro ⟨h1, h2, h3⟩
    refine ⟨(x.2 - a).toNat, by rw [List.mem_range]; omega, ?_⟩
    exact Prod.ext h1.symm (by simp only; omega)
theorem rng_sorted (p a b : Int) : (rng p a b).Pairwise lt := by
  unfold rng
  rw [List.pairwise_map]
  refine List.pairwise_lt_range.imp fun {i j} h => .inr ⟨rfl, ?_⟩
  simp only
  omega
theorem rng_nil {p a b : Int} (h : b ≤ a) : rng p a b = [] := by unfold rng; rw [show (b - a).toNat = 0 by omega]; rfl
theorem rng_cons {p a b : Int} (h : a < b) : rng p a b = (p, a) :: rng p (a + 1) b := by
  unfold rng
  rw [show (b - a).toNat = (b - (a + 1)).toNat + 1 by omega, List.range_succ_eq_map, List.map_cons, List.map_map]
  congr 1
  · exact Prod.ext rfl (by simp)
  · refine List.map_congr_left fun i _ => ?_
    exact Prod.ext rfl (by simp only [Function.comp, Nat.succ_eq_add_one]; omega)
theorem rng_snoc {p a b : Int} (h : a ≤ b) : rng p a (b + 1) = rng p a b ++ [(p, b)] := by
  unfold rng
  rw [show (b + 1 - a).toNat = (b - a).toNat + 1 by omega, List.range_succ, List.map_append, List.map_singleton, show a + ((b - a).toNat : Int) = b by omega]
theorem rng_length (p a b : Int) : (rng p a b).length = (b - a).toNat := by simp [rng]

/-- Behind which count a further dot's gap begins. -/
def from_ (base : List Dot) (last : Dot) (p : Int) : Int := if p = last.1 then last.2 else Vec.cnt base p

/-- The gaps ahead of further dots. -/
def gapsOf (base : List Dot) : Dot → List Dot → List Dot
  | _, [] => []
  | last, d :: l => rng d.1 (from_ base last d.1 + 1) d.2 ++ gapsOf base d l

theorem mem_gapsOf (base : List Dot) (last : Dot) (l : List Dot) (hs : l.Pairwise lt) (hl : ∀ d ∈ l, lt last d) (hf : ∀ d ∈ l, Vec.cnt base d.1 < d.2) (x : Dot) :
    x ∈ gapsOf base last l ↔ x ∉ l ∧ (∃ y ∈ l, y.1 = x.1 ∧ x.2 < y.2) ∧ from_ base last x.1 < x.2 := by
  induction l generalizing last with
  | nil => simp [gapsOf]
  | cons d l ih =>
    have k := List.pairwise_cons.1 hs
    have hd := hl d (List.mem_cons_self ..)
    have hfd := hf d (List.mem_cons_self ..)
    have hll : ∀ y ∈ l, lt last y := fun y hy => hl y (List.mem_cons_of_mem _ hy)
    unfold gapsOf
    rw [List.mem_append, mem_rng, ih d k.2 k.1 fun y hy => hf y (List.mem_cons_of_mem _ hy)]
    have hfrom : from_ base last d.1 < d.2 := by
      unfold from_
      split
      · rename_i h; unfold lt at hd; omega
      · exact hfd
    by_cases hp : x.1 = d.1
    · have e1 : from_ base d x.1 = d.2 := by unfold from_; rw [if_pos hp]
      rw [e1, hp]
      have hle : ∀ y ∈ l, y.1 = d.1 → d.2 < y.2 := fun y hy e => by have := k.1 y hy; unfold lt at this; omega
      rcases Int.lt_trichotomy x.2 d.2 with h | h | h
      · constructor
        · rintro (⟨_, h2, _⟩ | ⟨_, _, h2⟩)
          · refine ⟨?_, ⟨d, List.mem_cons_self .., rfl, h⟩, by omega⟩
            intro hx
            rcases List.mem_cons.1 hx with rfl | hx
            · omega
            · have := hle x hx hp; omega
          · omega
        · rintro ⟨_, _, h2⟩
          exact .inl ⟨rfl, by omega, h⟩
      · constructor
        · rintro (⟨_, _, h2⟩ | ⟨_, _, h2⟩) <;> omega
        · rintro ⟨h1, _⟩
          exact absurd (by rw [show x = d from Prod.ext hp h]; exact List.mem_cons_self ..) h1
      · constructor
        · rintro (⟨_, _, h2⟩ | ⟨h1, ⟨y, hy, e, h3⟩, h2⟩)
          · omega
          · refine ⟨?_, ⟨y, List.mem_cons_of_mem _ hy, e, h3⟩, by omega⟩
            intro hx
            rcases List.mem_cons.1 hx with rfl | hx
            · omega
            · exact h1 hx
        · rintro ⟨h1, ⟨y, hy, e, h3⟩, _⟩
          refine .inr ⟨fun hx => h1 (List.mem_cons_of_mem _ hx), ⟨y, ?_, e, h3⟩, h⟩
          rcases List.mem_cons.1 hy with rfl | hy
          · omega
          · exact hy
    · have e1 : from_ base d x.1 = Vec.cnt base x.1 := by unfold from_; rw [if_neg hp]
      rw [e1]
      have hxd : x ≠ d := fun e => hp (by rw [e])
      constructor
      · rintro (⟨h1, _⟩ | ⟨h1, ⟨y, hy, e, h3⟩, h2⟩)
        · exact absurd h1 hp
        · refine ⟨?_, ⟨y, List.mem_cons_of_mem _ hy, e, h3⟩, ?_⟩
          · intro hx
            rcases List.mem_cons.1 hx with h | h
            · exact hxd h
            · exact h1 h
          · have a1 := k.1 y hy
            have a2 := hll y hy
            unfold from_
            rw [if_neg]
            · exact h2
            · unfold lt at a1 hd; omega
      · rintro ⟨h1, ⟨y, hy, e, h3⟩, h2⟩
        rcases List.mem_cons.1 hy with rfl | hy
        · exact absurd e.symm hp
        · refine .inr ⟨fun hx => h1 (List.mem_cons_of_mem _ hx), ⟨y, hy, e, h3⟩, ?_⟩
          have a1 := k.1 y hy
          unfold from_ at h2
          rw [if_neg] at h2
          · exact h2
          · unfold lt at a1 hd; omega

theorem gapsOf_sorted (base : List Dot) (last : Dot) (l : List Dot) (hs : l.Pairwise lt) (hl : ∀ d ∈ l, lt last d) (hf : ∀ d ∈ l, Vec.cnt base d.1 < d.2) : (gapsOf base last l).Pairwise lt := by
  induction l generalizing last with
  | nil => exact .nil
  | cons d l ih =>
    have k := List.pairwise_cons.1 hs
    have hf2 : ∀ y ∈ l, Vec.cnt base y.1 < y.2 := fun y hy => hf y (List.mem_cons_of_mem _ hy)
    unfold gapsOf
    rw [List.pairwise_append]
    refine ⟨rng_sorted _ _ _, ih d k.2 k.1 hf2, fun x hx y hy => ?_⟩
    rw [mem_rng] at hx
    rw [mem_gapsOf base d l k.2 k.1 hf2] at hy
    obtain ⟨_, ⟨z, hz, e, _⟩, h3⟩ := hy
    have a1 := k.1 z hz
    unfold from_ at h3
    unfold lt at *
    split at h3
    · omega
    · omega

/-- The gaps of a set that may be. -/
def gaps (s : S) : List Dot := gapsOf s.base (-1, 0) s.extra

theorem Ok.first {s : S} (h : Ok s) : ∀ d ∈ s.extra, lt (-1, 0) d := fun d hd => by have := h.good d hd; unfold Good at this; unfold lt; simp only; omega
theorem Ok.fars {s : S} (h : Ok s) : ∀ d ∈ s.extra, Vec.cnt s.base d.1 < d.2 := fun d hd => by have := h.far d hd; omega

theorem mem_gaps {s : S} (h : Ok s) (x : Dot) : x ∈ gaps s ↔ x ∉ s.extra ∧ (∃ y ∈ s.extra, y.1 = x.1 ∧ x.2 < y.2) ∧ Vec.cnt s.base x.1 < x.2 := by
  unfold gaps
  rw [mem_gapsOf _ _ _ h.sorted h.first h.fars]
  constructor
  · rintro ⟨h1, ⟨y, hy, e, h3⟩, h2⟩
    refine ⟨h1, ⟨y, hy, e, h3⟩, ?_⟩
    have := h.good y hy
    unfold Good at this
    unfold from_ at h2
    rw [if_neg (by simp only; omega)] at h2
    exact h2
  · rintro ⟨h1, ⟨y, hy, e, h3⟩, h2⟩
    refine ⟨h1, ⟨y, hy, e, h3⟩, ?_⟩
    have := h.good y hy
    unfold Good at this
    unfold from_
    rw [if_neg (by simp only; omega)]
    exact h2
theorem gaps_sorted {s : S} (h : Ok s) : (gaps s).Pairwise lt := gapsOf_sorted _ _ _ h.sorted h.first h.fars

/-- The count of the last further dot of a peer. -/
def topOf (p : Int) (l : List Dot) : Int := l.foldl (fun t d => if d.1 = p then d.2 else t) 0
theorem topOf_next (p : Int) (l : List Dot) (d : Dot) : topOf p (l ++ [d]) = if d.1 = p then d.2 else topOf p l := by unfold topOf; rw [List.foldl_append]; rfl

theorem topOf_sorted (p : Int) (n : Nat) : ∀ (l : List Dot), l.length = n → l.Pairwise lt → (∀ d ∈ l, 0 ≤ d.2) → (0 ≤ topOf p l ∧ (∀ d ∈ l, d.1 = p → d.2 ≤ topOf p l)) ∧ (topOf p l = 0 ∨ (p, topOf p l) ∈ l) := by
  induction n with
  | zero => intro l hl _ _; rw [List.length_eq_zero_iff.1 hl]; simp [topOf]
  | succ n ih =>
    intro l hl hs h0
    obtain ⟨l', d, rfl⟩ : ∃ l' d, l = l' ++ [d] := by
      refine ⟨l.dropLast, l.getLast (by rintro rfl; simp at hl), (List.dropLast_concat_getLast _).symm⟩
    rw [List.pairwise_append] at hs
    obtain ⟨⟨k1, k2⟩, k3⟩ := ih l' (by simpa using hl) hs.1 fun d hd => h0 d (by simp [hd])
    have hd0 := h0 d (by simp)
    rw [topOf_next]
    by_cases hp : d.1 = p
    · rw [if_pos hp]
      refine ⟨⟨hd0, fun x hx e => ?_⟩, .inr (by rw [← hp]; simp)⟩
      rcases List.mem_append.1 hx with hx | hx
      · have := hs.2.2 x hx d (by simp); unfold lt at this; omega
      · rw [List.mem_singleton] at hx; subst hx; omega
    · rw [if_neg hp]
      refine ⟨⟨k1, fun x hx e => ?_⟩, k3.imp id fun h => by simp [h]⟩
      rcases List.mem_append.1 hx with hx | hx
      · exact k2 x hx e
      · rw [List.mem_singleton] at hx; subst hx; exact absurd e hp

/-- The gaps of a peer. -/
def gapsAt (s : S) (p : Int) : List Dot := (rng p (Vec.cnt s.base p + 1) (topOf p s.extra)).filter fun d => decide (d ∉ s.extra)
/-- The gaps of some first peers. -/
def gapsTo (s : S) : Nat → List Dot
  | 0 => []
  | k + 1 => gapsTo s k ++ gapsAt s k
theorem mem_gapsTo (s : S) (k : Nat) (x : Dot) : x ∈ gapsTo s k ↔ 0 ≤ x.1 ∧ x.1 < k ∧ Vec.cnt s.base x.1 < x.2 ∧ x.2 < topOf x.1 s.extra ∧ x ∉ s.extra := by
  induction k with
  | zero => simp [gapsTo]; omega
  | succ k ih =>
    unfold gapsTo gapsAt
    rw [List.mem_append, ih, List.mem_filter, mem_rng, decide_eq_true_eq]
    constructor
    · rintro (⟨h1, h2, h3, h4, h5⟩ | ⟨⟨h1, h2, h3⟩, h4⟩)
      · exact ⟨h1, by omega, h3, h4, h5⟩
      · rw [h1]; exact ⟨by omega, by omega, by omega, h3, h4⟩
    · rintro ⟨h1, h2, h3, h4, h5⟩
      by_cases hk : x.1 = k
      · rw [hk] at h3 h4; exact .inr ⟨⟨hk, by omega, h4⟩, h5⟩
      · exact .inl ⟨h1, by omega, h3, h4, h5⟩
theorem gapsTo_sorted (s : S) (k : Nat) : (gapsTo s k).Pairwise lt := by
  induction k with
  | zero => exact .nil
  | succ k ih =>
    unfold gapsTo
    rw [List.pairwise_append]
    refine ⟨ih, (rng_sorted _ _ _).filter _, fun x hx y hy => ?_⟩
    rw [mem_gapsTo] at hx
    unfold gapsAt at hy
    rw [List.mem_filter, mem_rng] at hy
    unfold lt
    omega
/-- The document's gaps are these. -/
theorem gaps_eq {s : S} (h : Ok s) : gapsTo s 64 = gaps s := by
  refine sorted_ext (gapsTo_sorted s 64) (gaps_sorted h) fun x => ?_
  rw [mem_gapsTo, mem_gaps h]
  obtain ⟨⟨t1, t2⟩, t3⟩ := topOf_sorted x.1 _ s.extra rfl h.sorted fun d hd => by have := h.good d hd; unfold Good at this; omega
  have hc := Vec.cnt_nonneg h.vec x.1
  constructor
  · rintro ⟨h1, h2, h3, h4, h5⟩
    refine ⟨h5, ?_, h3⟩
    rcases t3 with t3 | t3
    · omega
    · exact ⟨_, t3, rfl, h4⟩
  · rintro ⟨h5, ⟨y, hy, e, h4⟩, h3⟩
    have hg := h.good y hy
    have := t2 y hy e
    unfold Good at hg
    exact ⟨by omega, by omega, h3, by omega, h5⟩

theorem gapsOf_length (base : List Dot) (last : Dot) (l : List Dot) (B : Nat) (hb : ∀ p, 0 ≤ Vec.cnt base p) (hl : 0 ≤ last.2) (h : ∀ d ∈ l, 0 ≤ d.2 ∧ d.2 ≤ B + 1) : (gapsOf base last l).length ≤ l.length * B := by
  induction l generalizing last with
  | nil => simp [gapsOf]
  | cons d l ih =>
    have hd := h d (List.mem_cons_self ..)
    have := ih d hd.1 fun x hx => h x (List.mem_cons_of_mem _ hx)
    have hf : 0 ≤ from_ base last d.1 := by unfold from_; split; exact hl; exact hb _
    unfold gapsOf
    rw [List.length_append, rng_length, List.length_cons, Nat.add_mul]
    omega

/-- A gap may be, and is not there. -/
theorem gap_good {s : S} (h : Ok s) {x : Dot} (hx : x ∈ gaps s) : Good x ∧ ¬ Has s x := by
  obtain ⟨h1, ⟨y, hy, e, h4⟩, h3⟩ := (mem_gaps h x).1 hx
  have hg := h.good y hy
  have hc := Vec.cnt_nonneg h.vec x.1
  unfold Good at *
  refine ⟨by omega, ?_⟩
  rintro (⟨_, h5⟩ | h5)
  · omega
  · exact h1 h5

/-- With its gaps filled a set has none. -/
theorem filled {s : S} (h : Ok s) : (adds s (gaps s)).extra = [] := by
  have ho := adds_ok h (gaps s)
  have hh := adds_has h (gaps s)
  generalize adds s (gaps s) = t at *
  apply List.eq_nil_iff_forall_not_mem.2
  intro d hd
  have hf := ho.far d hd
  have hn := not_next ho d.1
  apply hn
  rw [hh]
  have ht0 := Vec.cnt_nonneg ho.vec d.1
  have hs0 := Vec.cnt_nonneg h.vec d.1
  have hle : Vec.cnt s.base d.1 ≤ Vec.cnt t.base d.1 := by
    apply Classical.byContradiction
    intro hlt
    exact hn ((hh _).2 (.inr (.inl ⟨by simp only; omega, by simp only; omega⟩)))
  -- a further dot of the set, of the peer, behind
  have hy : ∃ y ∈ s.extra, y.1 = d.1 ∧ d.2 ≤ y.2 := by
    rcases (hh d).1 (.inr hd) with ⟨h1, _⟩ | h1 | h1
    · obtain ⟨_, ⟨y, hy, e, h4⟩, _⟩ := (mem_gaps h d).1 h1
      exact ⟨y, hy, e, by omega⟩
    · omega
    · exact ⟨d, h1, rfl, Int.le_refl _⟩
  obtain ⟨y, hy, e, h4⟩ := hy
  by_cases hm : (d.1, Vec.cnt t.base d.1 + 1) ∈ s.extra
  · exact .inr (.inr hm)
  · have hg : (d.1, Vec.cnt t.base d.1 + 1) ∈ gaps s := (mem_gaps h _).2 ⟨hm, ⟨y, hy, e, by simp only; omega⟩, by simp only; omega⟩
    exact .inl ⟨hg, (gap_good h hg).1⟩
end DS

end Go.Proofs.Ytdgjjlffdfpkcaa
