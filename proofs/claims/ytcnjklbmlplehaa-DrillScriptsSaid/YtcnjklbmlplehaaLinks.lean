/- Edges of a graph as sorted links; neighbours out of links. -/
import Derived.Test.YtcnjklbmlplehaaBfs
namespace Go.Proofs.Ytcnjklbmlplehaa

namespace GR
theorem sorted_uniq {α : Type} {r : α → α → Prop} (tr : ∀ a b c, r a b → r b c → r a c) (ir : ∀ a, ¬ r a a) {l m : List α} (hl : l.Pairwise r) (hm : m.Pairwise r) (h : ∀ x, x ∈ l ↔ x ∈ m) : l = m := by
  induction l generalizing m with
  | nil =>
    cases m with
    | nil => rfl
    | cons e m => exact absurd ((h e).2 (List.mem_cons_self ..)) (by simp)
  | cons d l ih =>
    cases m with
    | nil => exact absurd ((h d).1 (List.mem_cons_self ..)) (by simp)
    | cons e m =>
      have kl := List.pairwise_cons.1 hl
      have km := List.pairwise_cons.1 hm
      have hde : d = e := by
        rcases List.mem_cons.1 ((h d).1 (List.mem_cons_self ..)) with h1 | h1
        · exact h1
        · rcases List.mem_cons.1 ((h e).2 (List.mem_cons_self ..)) with h2 | h2
          · exact h2.symm
          · exact absurd (tr _ _ _ (kl.1 e h2) (km.1 d h1)) (ir _)
      subst hde
      congr 1
      refine ih kl.2 km.2 fun x => ?_
      constructor
      · intro hx
        rcases List.mem_cons.1 ((h x).1 (List.mem_cons_of_mem _ hx)) with rfl | h1
        · exact absurd (kl.1 _ hx) (ir _)
        · exact h1
      · intro hx
        rcases List.mem_cons.1 ((h x).2 (List.mem_cons_of_mem _ hx)) with rfl | h1
        · exact absurd (km.1 _ hx) (ir _)
        · exact h1

/-- A link: its lower peer, and its higher one. -/
abbrev Lk := Nat × Nat
def ltL (a b : Lk) : Prop := a.1 < b.1 ∨ a.1 = b.1 ∧ a.2 < b.2
instance (a b : Lk) : Decidable (ltL a b) := by unfold ltL; infer_instance
theorem ltL_trans (a b c : Lk) (h : ltL a b) (k : ltL b c) : ltL a c := by unfold ltL at *; omega
theorem ltL_irrefl (a : Lk) : ¬ ltL a a := by unfold ltL; omega
theorem ltL_tri (a b : Lk) : ltL a b ∨ a = b ∨ ltL b a := by
  obtain ⟨a1, a2⟩ := a
  obtain ⟨b1, b2⟩ := b
  simp only [ltL, Prod.mk.injEq]
  omega

/-- The links of one peer to higher ones; all links, in their order. -/
def linksAt (n : Nat) (adj : Nat → Nat → Bool) (a : Nat) : List Lk := ((List.range n).filter fun b => decide (a < b) && adj a b).map fun b => (a, b)
def links (n : Nat) (adj : Nat → Nat → Bool) : List Lk := (List.range n).flatMap (linksAt n adj)
variable {n : Nat} {adj : Nat → Nat → Bool}
theorem mem_linksAt {a : Nat} {z : Lk} : z ∈ linksAt n adj a ↔ z.1 = a ∧ z.2 < n ∧ a < z.2 ∧ adj a z.2 = true := by
  unfold linksAt
  rw [List.mem_map]
  constructor
  · rintro ⟨b, hb, rfl⟩
    rw [List.mem_filter, List.mem_range, Bool.and_eq_true, decide_eq_true_eq] at hb
    exact ⟨rfl, hb.1, hb.2.1, hb.2.2⟩
  · rintro ⟨h1, h2, h3, h4⟩
    refine ⟨z.2, ?_, Prod.ext h1.symm rfl⟩
    rw [List.mem_filter, List.mem_range, Bool.and_eq_true, decide_eq_true_eq]
    exact ⟨h2, h3, h4⟩
theorem mem_links {z : Lk} : z ∈ links n adj ↔ z.1 < z.2 ∧ z.2 < n ∧ adj z.1 z.2 = true := by
  unfold links
  rw [List.mem_flatMap]
  constructor
  · rintro ⟨a, ha, hz⟩
    obtain ⟨rfl, h2, h3, h4⟩ := mem_linksAt.1 hz
    exact ⟨h3, h2, h4⟩
  · rintro ⟨h1, h2, h3⟩
    exact ⟨z.1, List.mem_range.2 (by omega), mem_linksAt.2 ⟨rfl, h2, h1, h3⟩⟩
theorem linksAt_sorted (a : Nat) : (linksAt n adj a).Pairwise ltL := by
  unfold linksAt
  rw [List.pairwise_map]
  exact (List.pairwise_lt_range.filter _).imp fun h => .inr ⟨rfl, h⟩
theorem links_sorted : (links n adj).Pairwise ltL := by
  unfold links
  rw [List.pairwise_flatMap]
  refine ⟨fun a _ => linksAt_sorted a, ?_⟩
  refine List.pairwise_lt_range.imp fun {a b} h x hx y hy => ?_
  obtain ⟨rfl, _⟩ := mem_linksAt.1 hx
  obtain ⟨rfl, _⟩ := mem_linksAt.1 hy
  exact .inl h
theorem links_uniq {l : List Lk} (hl : l.Pairwise ltL) (h : ∀ z, z ∈ l ↔ z.1 < z.2 ∧ z.2 < n ∧ adj z.1 z.2 = true) : l = links n adj :=
  sorted_uniq ltL_trans ltL_irrefl hl links_sorted fun z => by rw [h, mem_links]

/-- Edges as they come: two numbers. -/
abbrev Ed := Int × Int
def hasE (l : List Ed) (p q : Int) : Bool := l.any fun e => (decide (e.1 = p) && decide (e.2 = q)) || (decide (e.1 = q) && decide (e.2 = p))
def adjOf (l : List Ed) (u v : Nat) : Bool := l.any fun e => (decide (e.1 = u) && decide (e.2 = v)) || (decide (e.1 = v) && decide (e.2 = u))
theorem adjOf_eq (l : List Ed) (u v : Nat) : adjOf l u v = hasE l u v := rfl
def badI (n : Int) (e : Ed) : Bool := decide (e.1 < 0 ∨ n ≤ e.1 ∨ e.2 < 0 ∨ n ≤ e.2 ∨ e.1 = e.2)
def badE (n : Nat) (e : Ed) : Bool := decide (e.1 < 0 ∨ (n : Int) ≤ e.1 ∨ e.2 < 0 ∨ (n : Int) ≤ e.2 ∨ e.1 = e.2)
theorem badE_eq (n : Nat) (e : Ed) : badE n e = badI n e := rfl
def OkE (n : Nat) (l : List Ed) : Prop := ∀ e ∈ l, badE n e = false
/-- Why peers and edges are no graph. -/
def checkG (n : Int) (l : List Ed) : Nat := if n < 1 ∨ 64 < n then 12 else if l.any (badI n) then 11 else 0
theorem checkG_ok {n : Int} {l : List Ed} (h : checkG n l = 0) : ∃ k : Nat, n = k ∧ 1 ≤ k ∧ k ≤ 64 ∧ OkE k l := by
  unfold checkG at h
  split at h
  · cases h
  · split at h
    · cases h
    · rename_i h1 h2
      refine ⟨n.toNat, by omega, by omega, by omega, fun e he => ?_⟩
      rw [badE_eq, Int.toNat_of_nonneg (by omega)]
      cases hb : badI n e with
      | false => rfl
      | true => exact absurd (List.any_eq_true.2 ⟨e, he, hb⟩) h2
theorem good_ed {e : Ed} (h : badE n e = false) : 0 ≤ e.1 ∧ e.1 < n ∧ 0 ≤ e.2 ∧ e.2 < n ∧ e.1 ≠ e.2 := by
  unfold badE at h
  rw [decide_eq_false_iff_not] at h
  omega
theorem adjOf_iff {l : List Ed} {u v : Nat} : adjOf l u v = true ↔ ∃ e ∈ l, (e.1 = u ∧ e.2 = v) ∨ (e.1 = v ∧ e.2 = u) := by
  unfold adjOf
  rw [List.any_eq_true]
  simp only [Bool.or_eq_true, Bool.and_eq_true, decide_eq_true_eq]
theorem gr_of {l : List Ed} (h : OkE n l) : Gr n (adjOf l) := by
  refine ⟨fun u v ha => ?_, fun u v => ?_⟩
  · obtain ⟨e, he, h1 | h1⟩ := adjOf_iff.1 ha
    · have := good_ed (h e he); omega
    · have := good_ed (h e he); omega
  · rw [Bool.eq_iff_iff, adjOf_iff, adjOf_iff]
    constructor
    · rintro ⟨e, he, h1 | h1⟩
      · exact ⟨e, he, .inr h1⟩
      · exact ⟨e, he, .inl h1⟩
    · rintro ⟨e, he, h1 | h1⟩
      · exact ⟨e, he, .inr h1⟩
      · exact ⟨e, he, .inl h1⟩
theorem adjOf_self {l : List Ed} (h : OkE n l) (u : Nat) : adjOf l u u = false := by
  cases ha : adjOf l u u with
  | false => rfl
  | true =>
    obtain ⟨e, he, h1⟩ := adjOf_iff.1 ha
    have := good_ed (h e he)
    omega

/-- An edge as a link. -/
def nrm (e : Ed) : Lk := ((min e.1 e.2).toNat, (max e.1 e.2).toNat)
def put (ls : List Lk) (z : Lk) : List Lk := if z ∈ ls then ls else ls ++ [z]
def puts (l : List Ed) : List Lk := l.foldl (fun ls e => put ls (nrm e)) []
theorem puts_next (l : List Ed) (e : Ed) : puts (l ++ [e]) = put (puts l) (nrm e) := by unfold puts; rw [List.foldl_append]; rfl
theorem mem_put {ls : List Lk} {z x : Lk} : x ∈ put ls z ↔ x ∈ ls ∨ x = z := by
  unfold put
  split
  · rename_i h
    exact ⟨.inl, fun h' => h'.elim id (fun e => by rw [e]; exact h)⟩
  · simp
theorem put_nodup {ls : List Lk} {z : Lk} (h : ls.Nodup) : (put ls z).Nodup := by
  unfold put
  split
  · exact h
  · rename_i hz
    rw [List.nodup_append]
    refine ⟨h, by simp, fun a ha b hb => ?_⟩
    rw [List.mem_singleton] at hb
    rintro rfl
    rw [hb] at ha
    exact hz ha
theorem puts_all (m : Nat) : ∀ l : List Ed, l.length = m → (puts l).Nodup ∧ (∀ z, z ∈ puts l ↔ ∃ e ∈ l, nrm e = z) ∧ (puts l).length ≤ m := by
  induction m with
  | zero => intro l hl; rw [List.length_eq_zero_iff.1 hl]; simp [puts]
  | succ m ih =>
    intro l hl
    obtain ⟨l', d, rfl⟩ : ∃ l' d, l = l' ++ [d] := ⟨l.dropLast, l.getLast (by rintro rfl; simp at hl), (List.dropLast_concat_getLast _).symm⟩
    obtain ⟨h1, h2, h3⟩ := ih l' (by simpa using hl)
    rw [puts_next]
    refine ⟨put_nodup h1, fun z => ?_, ?_⟩
    · rw [mem_put, h2]
      constructor
      · rintro (⟨e, he, hz⟩ | rfl)
        · exact ⟨e, by simp [he], hz⟩
        · exact ⟨d, by simp, rfl⟩
      · rintro ⟨e, he, hz⟩
        rcases List.mem_append.1 he with he | he
        · exact .inl ⟨e, he, hz⟩
        · rw [List.mem_singleton] at he; subst he; exact .inr hz.symm
    · unfold put
      split
      · omega
      · simp; omega
theorem nrm_iff {e : Ed} (h : badE n e = false) (z : Lk) : nrm e = z ↔ z.1 < z.2 ∧ ((e.1 = z.1 ∧ e.2 = z.2) ∨ (e.1 = z.2 ∧ e.2 = z.1)) := by
  have := good_ed h
  obtain ⟨a, b⟩ := z
  unfold nrm
  rw [Prod.mk.injEq]
  simp only
  omega
/-- Links that were put and sorted. -/
theorem sorted_links {l : List Ed} (h : OkE n l) {R : List Lk} (hp : R.Perm (puts l)) (hs : R.Pairwise fun a b => ¬ ltL b a) : R = links n (adjOf l) := by
  obtain ⟨h1, h2, _⟩ := puts_all _ l rfl
  have hn : R.Nodup := hp.nodup_iff.2 h1
  have hs2 : R.Pairwise ltL := by
    refine (hs.and hn).imp fun {a b} ⟨k1, k2⟩ => ?_
    rcases ltL_tri a b with h | h | h
    · exact h
    · exact absurd h k2
    · exact absurd h k1
  refine links_uniq hs2 fun z => ?_
  rw [hp.mem_iff, h2]
  constructor
  · rintro ⟨e, he, hz⟩
    obtain ⟨k1, k2⟩ := (nrm_iff (h e he) z).1 hz
    have := good_ed (h e he)
    exact ⟨k1, by omega, adjOf_iff.2 ⟨e, he, k2⟩⟩
  · rintro ⟨k1, _, k3⟩
    obtain ⟨e, he, k4⟩ := adjOf_iff.1 k3
    exact ⟨e, he, (nrm_iff (h e he) z).2 ⟨k1, k4⟩⟩

/-- Neighbours, link by link. -/
def ends (p : Int) (z : Lk) : List Nat := (if (z.1 : Int) = p then [z.2] else []) ++ (if (z.2 : Int) = p then [z.1] else [])
def nearZ (n : Nat) (adj : Nat → Nat → Bool) (p : Int) : List Nat := if 0 ≤ p then near n adj p.toNat else []
theorem mem_ends {p : Int} {z : Lk} {x : Nat} : x ∈ ends p z ↔ ((z.1 : Int) = p ∧ x = z.2) ∨ ((z.2 : Int) = p ∧ x = z.1) := by
  unfold ends
  rw [List.mem_append]
  by_cases h1 : (z.1 : Int) = p <;> by_cases h2 : (z.2 : Int) = p <;> simp [h1, h2]
theorem ends_nodup {p : Int} {z : Lk} (h : z.1 < z.2) : (ends p z).Nodup := by
  unfold ends
  by_cases h1 : (z.1 : Int) = p
  · rw [if_pos h1, if_neg (by omega)]; simp
  · rw [if_neg h1]; split <;> simp
theorem mem_nearZ (hg : Gr n adj) {p : Int} {x : Nat} : x ∈ nearZ n adj p ↔ ∃ u : Nat, p = u ∧ adj u x = true := by
  unfold nearZ
  split
  · rename_i h
    rw [mem_near hg]
    exact ⟨fun h' => ⟨p.toNat, by omega, h'⟩, fun ⟨u, e, h'⟩ => by rw [e, Int.toNat_natCast]; exact h'⟩
  · rename_i h
    exact ⟨fun h' => (by cases h'), fun ⟨u, e, _⟩ => by omega⟩
theorem nearZ_sorted (p : Int) : (nearZ n adj p).Pairwise (· < ·) := by
  unfold nearZ near
  split
  · exact List.pairwise_lt_range.filter _
  · exact .nil
theorem mem_endss (hg : Gr n adj) (hs : ∀ u, adj u u = false) {p : Int} {x : Nat} : x ∈ (links n adj).flatMap (ends p) ↔ x ∈ nearZ n adj p := by
  rw [List.mem_flatMap, mem_nearZ hg]
  constructor
  · rintro ⟨z, hz, hx⟩
    obtain ⟨_, _, k3⟩ := mem_links.1 hz
    rcases mem_ends.1 hx with ⟨h1, rfl⟩ | ⟨h1, rfl⟩
    · exact ⟨z.1, h1.symm, k3⟩
    · exact ⟨z.2, h1.symm, by rw [hg.symm]; exact k3⟩
  · rintro ⟨u, rfl, hu⟩
    have hlt := hg.lt _ _ hu
    rcases Nat.lt_trichotomy u x with h | h | h
    · exact ⟨(u, x), mem_links.2 ⟨h, hlt.2, hu⟩, mem_ends.2 (.inl ⟨rfl, rfl⟩)⟩
    · subst h; rw [hs] at hu; cases hu
    · exact ⟨(x, u), mem_links.2 ⟨h, hlt.1, by rw [hg.symm]; exact hu⟩, mem_ends.2 (.inr ⟨rfl, rfl⟩)⟩
theorem endss_nodup (p : Int) : ((links n adj).flatMap (ends p)).Nodup := by
  show List.Pairwise _ _
  rw [List.pairwise_flatMap]
  refine ⟨fun z hz => ends_nodup (mem_links.1 hz).1, ?_⟩
  refine List.Pairwise.imp_of_mem (R := ltL) (fun {a b} ha hb h x hx y hy => ?_) links_sorted
  have h1 := (mem_links.1 ha).1
  have h2 := (mem_links.1 hb).1
  rintro rfl
  unfold ltL at h
  rcases mem_ends.1 hx with ⟨e1, e2⟩ | ⟨e1, e2⟩ <;> rcases mem_ends.1 hy with ⟨e3, e4⟩ | ⟨e3, e4⟩ <;> omega
/-- Neighbours that were met and sorted. -/
theorem sorted_near (hg : Gr n adj) (hs : ∀ u, adj u u = false) {p : Int} {R : List Nat} (hp : R.Perm ((links n adj).flatMap (ends p))) (hr : R.Pairwise (· ≤ ·)) : R = nearZ n adj p := by
  have hn : R.Nodup := hp.nodup_iff.2 (endss_nodup p)
  have hs2 : R.Pairwise (· < ·) := (hr.and hn).imp fun {a b} ⟨k1, k2⟩ => by omega
  exact sorted_uniq (fun a b c h k => by omega) (fun a h => by omega) hs2 (nearZ_sorted p) fun x => by rw [hp.mem_iff, mem_endss hg hs]
theorem near_length (h : Nat) : (near n adj h).length ≤ n := by
  have := List.length_filter_le (adj h) (List.range n)
  rw [List.length_range] at this
  exact this
end GR

end Go.Proofs.Ytcnjklbmlplehaa
