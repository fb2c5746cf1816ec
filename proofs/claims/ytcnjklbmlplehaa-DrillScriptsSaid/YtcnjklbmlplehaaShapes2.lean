/- Lines, rings and stars: how far, how wide, how many edges. -/
import Derived.Test.YtcnjklbmlplehaaShapes
namespace Go.Proofs.Ytcnjklbmlplehaa

namespace GR
/-- Where a distance is told by its laws, balls are told by it. -/
structure IsDist (n : Nat) (adj : Nat → Nat → Bool) (δ : Nat → Nat → Nat) : Prop where
  gr : Gr n adj
  zero : ∀ p v, p < n → v < n → (δ p v = 0 ↔ v = p)
  step : ∀ p u v, p < n → adj u v = true → δ p v ≤ δ p u + 1
  back : ∀ p v k, p < n → v < n → δ p v = k + 1 → ∃ u, adj u v = true ∧ δ p u = k
variable {n : Nat} {adj : Nat → Nat → Bool} {δ : Nat → Nat → Nat}
theorem IsDist.ball (h : IsDist n adj δ) {p : Nat} (hp : p < n) (k v : Nat) : ball n adj p k v = true ↔ v < n ∧ δ p v ≤ k := by
  induction k generalizing v with
  | zero =>
    have e : GR.ball n adj p 0 v = (v == p) := rfl
    rw [e, beq_iff_eq]
    constructor
    · rintro rfl
      exact ⟨hp, by have := (h.zero v v hp hp).2 rfl; omega⟩
    · rintro ⟨hv, h0⟩
      exact (h.zero p v hp hv).1 (by omega)
  | succ k ih =>
    rw [ball_succ h.gr, ih]
    constructor
    · rintro (⟨h1, h2⟩ | ⟨u, hu, ha⟩)
      · exact ⟨h1, by omega⟩
      · have := h.step p u v hp ha
        have := (ih u).1 hu
        exact ⟨(h.gr.lt _ _ ha).2, by omega⟩
    · rintro ⟨hv, hd⟩
      by_cases hk : δ p v ≤ k
      · exact .inl ⟨hv, hk⟩
      · obtain ⟨u, ha, hu⟩ := h.back p v k hp hv (by omega)
        exact .inr ⟨u, (ih u).2 ⟨(h.gr.lt _ _ ha).1, by omega⟩, ha⟩
theorem IsDist.dz (h : IsDist n adj δ) {p v : Nat} (hp : p < n) (hv : v < n) : dz n adj p v = δ p v := by
  refine dz_some h.gr hp ⟨(h.ball hp _ v).2 ⟨hv, Nat.le_refl _⟩, fun k hk => ?_⟩
  cases hb : GR.ball n adj p k v with
  | false => rfl
  | true => have := ((h.ball hp k v).1 hb).2; omega
theorem IsDist.whole (h : IsDist n adj δ) (hn : 1 ≤ n) : whole n adj = true := (whole_iff h.gr hn).2 fun p v hp hv => by rw [h.dz hp hv]; omega
theorem IsDist.wide (h : IsDist n adj δ) {W : Nat} (hle : ∀ p v, p < n → v < n → δ p v ≤ W) (hx : W = 0 ∨ ∃ p v, p < n ∧ v < n ∧ δ p v = W) : wide n adj = W := by
  refine wide_eq (by omega) (fun p v hp hv => by rw [h.dz hp hv]; have := hle p v hp hv; omega) ?_
  rcases hx with rfl | ⟨p, v, hp, hv, e⟩
  · exact .inl rfl
  · exact .inr ⟨p, v, hp, hv, by rw [h.dz hp hv, e]⟩

/-- Edges that are told peer by peer. -/
def edsOf (ed : Nat → Ed) (is : Nat → Bool) (k : Nat) : List Ed := ((List.range k).filter is).map ed
theorem edsOf_next (ed : Nat → Ed) (is : Nat → Bool) (k : Nat) : edsOf ed is (k + 1) = edsOf ed is k ++ if is k then [ed k] else [] := by
  unfold edsOf
  rw [List.range_succ, List.filter_append, List.map_append]
  congr 1
  by_cases h : is k = true
  · simp [h]
  · simp [h]
theorem edsOf_length (ed : Nat → Ed) (is : Nat → Bool) (k : Nat) : (edsOf ed is k).length ≤ k := by
  unfold edsOf
  rw [List.length_map]
  have := List.length_filter_le is (List.range k)
  rw [List.length_range] at this
  exact this
theorem mem_edsOf {ed : Nat → Ed} {is : Nat → Bool} {k : Nat} {e : Ed} : e ∈ edsOf ed is k ↔ ∃ p, p < k ∧ is p = true ∧ ed p = e := by
  unfold edsOf
  rw [List.mem_map]
  constructor
  · rintro ⟨p, hp, rfl⟩
    rw [List.mem_filter, List.mem_range] at hp
    exact ⟨p, hp.1, hp.2, rfl⟩
  · rintro ⟨p, h1, h2, rfl⟩
    exact ⟨p, by rw [List.mem_filter, List.mem_range]; exact ⟨h1, h2⟩, rfl⟩

/-- As many links as edges, where all are unlike. -/
theorem puts_map {l : List Ed} (h : (l.map nrm).Nodup) : puts l = l.map nrm := by
  have key : ∀ (m : Nat) (l : List Ed), l.length = m → (l.map nrm).Nodup → puts l = l.map nrm := by
    intro m
    induction m with
    | zero => intro l hl _; rw [List.length_eq_zero_iff.1 hl]; rfl
    | succ m ih =>
      intro l hl hn
      obtain ⟨l', d, rfl⟩ : ∃ l' d, l = l' ++ [d] := ⟨l.dropLast, l.getLast (by rintro rfl; simp at hl), (List.dropLast_concat_getLast _).symm⟩
      rw [List.map_append, List.nodup_append] at hn
      rw [puts_next, ih l' (by simpa using hl) hn.1, put, if_neg, List.map_append]
      · rfl
      · intro hm
        exact hn.2.2 _ hm _ (by simp) rfl
  exact key _ l rfl h
theorem links_length {l : List Ed} (ho : OkE n l) (h : (l.map nrm).Nodup) : (links n (adjOf l)).length = l.length := by
  have hs := List.pairwise_mergeSort (le := fun a b : Lk => decide (¬ ltL b a)) (fun a b c h1 h2 => by
    have h1 := of_decide_eq_true h1
    have h2 := of_decide_eq_true h2
    refine decide_eq_true ?_
    unfold ltL at *
    omega) (fun a b => by
    rw [Bool.or_eq_true, decide_eq_true_eq, decide_eq_true_eq]
    rcases ltL_tri a b with h | h | h
    · exact .inl fun h2 => ltL_irrefl _ (ltL_trans _ _ _ h h2)
    · subst h; exact .inl (ltL_irrefl a)
    · exact .inr fun h2 => ltL_irrefl _ (ltL_trans _ _ _ h h2)) (puts l)
  have he := sorted_links ho (List.mergeSort_perm (puts l) (fun a b : Lk => decide (¬ ltL b a))) (hs.imp fun h => of_decide_eq_true h)
  rw [← he, List.length_mergeSort, puts_map h, List.length_map]
theorem edsOf_nodup {ed : Nat → Ed} {is : Nat → Bool} {k : Nat} (h : ∀ a b, a < b → b < k → is a = true → is b = true → nrm (ed a) ≠ nrm (ed b)) : ((edsOf ed is k).map nrm).Nodup := by
  unfold edsOf
  rw [List.map_map]
  show List.Pairwise _ _
  rw [List.pairwise_map]
  refine List.Pairwise.imp_of_mem (R := (· < ·)) (fun {a b} ha hb hab => ?_) (List.pairwise_lt_range.filter _)
  rw [List.mem_filter, List.mem_range] at ha hb
  exact h a b hab hb.1 ha.2 hb.2

def edLine (p : Nat) : Ed := ((p : Int), (p : Int) + 1)
def isLine (n p : Nat) : Bool := decide (p + 1 < n)
def line (n : Nat) : List Ed := edsOf edLine (isLine n) n
def edRing (n p : Nat) : Ed := ((p : Int), ((p + 1) % n : Nat))
def isRing (n p : Nat) : Bool := decide (2 < n) || decide (p + 1 < n)
def ring (n : Nat) : List Ed := edsOf (edRing n) (isRing n) n
def edStar (p : Nat) : Ed := (0, (p : Int))
def isStar (p : Nat) : Bool := decide (0 < p)
def star (n : Nat) : List Ed := edsOf edStar isStar n

theorem line_ok (n : Nat) : OkE n (line n) := by
  intro e he
  obtain ⟨p, h1, h2, rfl⟩ := mem_edsOf.1 he
  have h2 := of_decide_eq_true h2
  unfold badE edLine
  refine decide_eq_false ?_
  simp only
  omega
theorem line_adj (n u v : Nat) : adjOf (line n) u v = true ↔ u < n ∧ v < n ∧ (v = u + 1 ∨ u = v + 1) := by
  rw [adjOf_iff]
  constructor
  · rintro ⟨e, he, h⟩
    obtain ⟨p, h1, h2, rfl⟩ := mem_edsOf.1 he
    have h2 := of_decide_eq_true h2
    unfold edLine at h
    simp only at h
    omega
  · rintro ⟨h1, h2, h3 | h3⟩
    · exact ⟨edLine u, mem_edsOf.2 ⟨u, h1, decide_eq_true (by omega), rfl⟩, .inl ⟨rfl, by unfold edLine; simp only; omega⟩⟩
    · exact ⟨edLine v, mem_edsOf.2 ⟨v, h2, decide_eq_true (by omega), rfl⟩, .inr ⟨rfl, by unfold edLine; simp only; omega⟩⟩
def dLine (p v : Nat) : Nat := (p - v) + (v - p)
theorem line_dist (n : Nat) : IsDist n (adjOf (line n)) dLine := by
  refine ⟨gr_of (line_ok n), fun p v _ _ => by unfold dLine; omega, fun p u v _ h => ?_, fun p v k hp hv h => ?_⟩
  · have := (line_adj n u v).1 h
    unfold dLine; omega
  · unfold dLine at h
    by_cases hpv : p < v
    · exact ⟨v - 1, (line_adj n _ _).2 (by omega), by unfold dLine; omega⟩
    · exact ⟨v + 1, (line_adj n _ _).2 (by omega), by unfold dLine; omega⟩
theorem line_wide {n : Nat} (hn : 1 ≤ n) : wide n (adjOf (line n)) = (n : Int) - 1 := by
  rw [(line_dist n).wide (W := n - 1) (fun p v hp hv => by unfold dLine; omega) (.inr ⟨0, n - 1, by omega, by omega, by unfold dLine; omega⟩)]
  omega
theorem line_filter (m : Nat) : ((List.range (m + 1)).filter (isLine (m + 1))) = List.range m := by
  rw [List.range_succ, List.filter_append, List.filter_eq_self.2]
  · simp [isLine]
  · intro p hp
    rw [List.mem_range] at hp
    exact decide_eq_true (by omega)
theorem line_links {n : Nat} (hn : 1 ≤ n) : (links n (adjOf (line n))).length = n - 1 := by
  rw [links_length (line_ok n)]
  · obtain ⟨m, rfl⟩ : ∃ m, n = m + 1 := ⟨n - 1, by omega⟩
    unfold line edsOf
    rw [List.length_map, line_filter, List.length_range]
    omega
  · refine edsOf_nodup fun a b hab _ _ _ h => ?_
    unfold nrm edLine at h
    rw [Prod.mk.injEq] at h
    simp only at h
    omega

theorem star_ok (n : Nat) : OkE n (star n) := by
  intro e he
  obtain ⟨p, h1, h2, rfl⟩ := mem_edsOf.1 he
  have h2 := of_decide_eq_true h2
  unfold badE edStar
  refine decide_eq_false ?_
  simp only
  omega
theorem star_adj (n u v : Nat) : adjOf (star n) u v = true ↔ u < n ∧ v < n ∧ ((u = 0 ∧ 0 < v) ∨ (v = 0 ∧ 0 < u)) := by
  rw [adjOf_iff]
  constructor
  · rintro ⟨e, he, h⟩
    obtain ⟨p, h1, h2, rfl⟩ := mem_edsOf.1 he
    have h2 := of_decide_eq_true h2
    unfold edStar at h
    simp only at h
    omega
  · rintro ⟨h1, h2, ⟨rfl, h3⟩ | ⟨rfl, h3⟩⟩
    · exact ⟨edStar v, mem_edsOf.2 ⟨v, h2, decide_eq_true h3, rfl⟩, .inl ⟨rfl, rfl⟩⟩
    · exact ⟨edStar u, mem_edsOf.2 ⟨u, h1, decide_eq_true h3, rfl⟩, .inr ⟨rfl, rfl⟩⟩
def dStar (p v : Nat) : Nat := if p = v then 0 else if p = 0 ∨ v = 0 then 1 else 2
theorem dStar_cases (p v : Nat) : (p = v ∧ dStar p v = 0) ∨ (p ≠ v ∧ (p = 0 ∨ v = 0) ∧ dStar p v = 1) ∨ (p ≠ v ∧ p ≠ 0 ∧ v ≠ 0 ∧ dStar p v = 2) := by
  unfold dStar
  split
  · exact .inl ⟨‹_›, rfl⟩
  · split
    · exact .inr (.inl ⟨‹_›, ‹_›, rfl⟩)
    · exact .inr (.inr ⟨‹_›, by omega, by omega, rfl⟩)
theorem star_dist (n : Nat) : IsDist n (adjOf (star n)) dStar := by
  refine ⟨gr_of (star_ok n), fun p v _ _ => by have := dStar_cases p v; omega, fun p u v _ h => ?_, fun p v k hp hv h => ?_⟩
  · have := (star_adj n u v).1 h
    have h1 := dStar_cases p u
    have h2 := dStar_cases p v
    omega
  · rcases dStar_cases p v with h1 | h1 | h1
    · omega
    · refine ⟨p, (star_adj n _ _).2 (by omega), ?_⟩
      have := dStar_cases p p
      omega
    · refine ⟨0, (star_adj n _ _).2 (by omega), ?_⟩
      have := dStar_cases p 0
      omega
theorem star_wide {n : Nat} (hn : 1 ≤ n) : wide n (adjOf (star n)) = min ((n : Int) - 1) 2 := by
  have e : ((min (n - 1) 2 : Nat) : Int) = min ((n : Int) - 1) 2 := by omega
  rw [← e]
  refine (star_dist n).wide (fun p v hp hv => ?_) ?_
  · have := dStar_cases p v
    omega
  · by_cases h1 : n = 1
    · exact .inl (by omega)
    · by_cases h2 : n = 2
      · exact .inr ⟨0, 1, by omega, by omega, by have := dStar_cases 0 1; omega⟩
      · exact .inr ⟨1, 2, by omega, by omega, by have := dStar_cases 1 2; omega⟩
theorem star_links {n : Nat} (hn : 1 ≤ n) : (links n (adjOf (star n))).length = n - 1 := by
  rw [links_length (star_ok n)]
  · obtain ⟨m, rfl⟩ : ∃ m, n = m + 1 := ⟨n - 1, by omega⟩
    unfold star edsOf
    rw [List.length_map, List.range_succ_eq_map, List.filter_cons_of_neg (by simp [isStar]), List.filter_eq_self.2]
    · rw [List.length_map, List.length_range]; omega
    · intro x hx
      obtain ⟨y, _, rfl⟩ := List.mem_map.1 hx
      exact decide_eq_true (by omega)
  · refine edsOf_nodup fun a b hab _ _ _ h => ?_
    unfold nrm edStar at h
    rw [Prod.mk.injEq] at h
    simp only at h
    omega

theorem mod_next {n p : Nat} (hp : p < n) : (p + 1) % n = if p + 1 < n then p + 1 else 0 := by
  split
  · exact Nat.mod_eq_of_lt ‹_›
  · rw [show p + 1 = n by omega, Nat.mod_self]
theorem ring_small {n : Nat} (h : n ≤ 2) : ring n = line n := by
  match n, h with
  | 0, _ => rfl
  | 1, _ => rfl
  | 2, _ => rfl
theorem ring_ok (n : Nat) : OkE n (ring n) := by
  intro e he
  obtain ⟨p, h1, h2, rfl⟩ := mem_edsOf.1 he
  unfold isRing at h2
  rw [Bool.or_eq_true, decide_eq_true_eq, decide_eq_true_eq] at h2
  have hm := mod_next h1
  unfold badE edRing
  refine decide_eq_false ?_
  simp only
  split at hm <;> omega
theorem ring_adj {n : Nat} (hn : 3 ≤ n) (u v : Nat) : adjOf (ring n) u v = true ↔ u < n ∧ v < n ∧ (v = u + 1 ∨ u = v + 1 ∨ (u = 0 ∧ v + 1 = n) ∨ (v = 0 ∧ u + 1 = n)) := by
  have his : ∀ p, isRing n p = true := fun p => by unfold isRing; rw [decide_eq_true (by omega)]; rfl
  rw [adjOf_iff]
  constructor
  · rintro ⟨e, he, h⟩
    obtain ⟨p, h1, h2, rfl⟩ := mem_edsOf.1 he
    have hm := mod_next h1
    unfold edRing at h
    simp only at h
    split at hm <;> omega
  · rintro ⟨h1, h2, h3⟩
    have hm1 := mod_next h1
    have hm2 := mod_next h2
    by_cases ha : v = u + 1 ∨ (v = 0 ∧ u + 1 = n)
    · refine ⟨edRing n u, mem_edsOf.2 ⟨u, h1, his u, rfl⟩, .inl ⟨rfl, ?_⟩⟩
      unfold edRing
      simp only
      split at hm1 <;> omega
    · refine ⟨edRing n v, mem_edsOf.2 ⟨v, h2, his v, rfl⟩, .inr ⟨rfl, ?_⟩⟩
      unfold edRing
      simp only
      split at hm2 <;> omega
def dRing (n p v : Nat) : Nat := min ((p - v) + (v - p)) (n - ((p - v) + (v - p)))
theorem ring_dist {n : Nat} (hn : 3 ≤ n) : IsDist n (adjOf (ring n)) (dRing n) := by
  refine ⟨gr_of (ring_ok n), fun p v _ _ => by unfold dRing; omega, fun p u v _ h => ?_, fun p v k hp hv h => ?_⟩
  · have := (ring_adj hn u v).1 h
    unfold dRing; omega
  · unfold dRing at h
    by_cases hpv : p < v
    · by_cases hd : v - p ≤ n - (v - p)
      · exact ⟨v - 1, (ring_adj hn _ _).2 (by omega), by unfold dRing; omega⟩
      · by_cases hvn : v + 1 < n
        · exact ⟨v + 1, (ring_adj hn _ _).2 (by omega), by unfold dRing; omega⟩
        · exact ⟨0, (ring_adj hn _ _).2 (by omega), by unfold dRing; omega⟩
    · by_cases hd : p - v ≤ n - (p - v)
      · exact ⟨v + 1, (ring_adj hn _ _).2 (by omega), by unfold dRing; omega⟩
      · by_cases hv0 : 0 < v
        · exact ⟨v - 1, (ring_adj hn _ _).2 (by omega), by unfold dRing; omega⟩
        · exact ⟨n - 1, (ring_adj hn _ _).2 (by omega), by unfold dRing; omega⟩
theorem ring_wide {n : Nat} (hn : 3 ≤ n) : wide n (adjOf (ring n)) = (n / 2 : Nat) :=
  (ring_dist hn).wide (fun p v hp hv => by unfold dRing; omega) (.inr ⟨0, n / 2, by omega, by omega, by unfold dRing; omega⟩)
theorem ring_links {n : Nat} (hn : 3 ≤ n) : (links n (adjOf (ring n))).length = n := by
  have his : ∀ p, isRing n p = true := fun p => by unfold isRing; rw [decide_eq_true (by omega)]; rfl
  rw [links_length (ring_ok n)]
  · unfold ring edsOf
    rw [List.length_map, List.filter_eq_self.2 fun p _ => his p, List.length_range]
  · refine edsOf_nodup fun a b hab hb _ _ h => ?_
    have hm1 := mod_next (n := n) (p := a) (by omega)
    have hm2 := mod_next hb
    unfold nrm edRing at h
    rw [Prod.mk.injEq] at h
    simp only at h
    split at hm1 <;> split at hm2 <;> omega
end GR

end Go.Proofs.Ytcnjklbmlplehaa
