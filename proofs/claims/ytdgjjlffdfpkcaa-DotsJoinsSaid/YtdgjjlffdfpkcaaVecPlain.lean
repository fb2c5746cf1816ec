/- Vectors by their counts: two that have the same are the same; what two come to has the greater ones. -/
import Derived.Test.YtdgjjlffdfpkcaaVecMade
namespace Go.Proofs.Ytdgjjlffdfpkcaa

namespace Vec
/-- How many changes of a peer a list has. -/
def cnt : List Dot → Int → Int
  | [], _ => 0
  | d :: l, p => if d.1 = p then d.2 else cnt l p

/-- A vector: its dots may be, and their peers rise. -/
def Ok (l : List Dot) : Prop := (∀ d ∈ l, 0 ≤ d.1 ∧ d.1 < 64 ∧ 1 ≤ d.2 ∧ d.2 ≤ 1048576) ∧ l.Pairwise (fun d e => d.1 < e.1)

theorem Ok.nil : Ok [] := ⟨by simp, .nil⟩
theorem Ok.tail {d : Dot} {l : List Dot} (h : Ok (d :: l)) : Ok l := ⟨fun x hx => h.1 x (List.mem_cons_of_mem _ hx), (List.pairwise_cons.1 h.2).2⟩
theorem Ok.head {d : Dot} {l : List Dot} (h : Ok (d :: l)) : 0 ≤ d.1 ∧ d.1 < 64 ∧ 1 ≤ d.2 ∧ d.2 ≤ 1048576 := h.1 d (List.mem_cons_self ..)
theorem Ok.less {d : Dot} {l : List Dot} (h : Ok (d :: l)) : ∀ e ∈ l, d.1 < e.1 := (List.pairwise_cons.1 h.2).1

theorem check_iff (last : Int) (l : List Dot) : checkE last l = 0 ↔ (Ok l ∧ ∀ d ∈ l, last < d.1) := by
  induction l generalizing last with
  | nil => simp [checkE, Ok]
  | cons d l ih =>
    unfold checkE
    by_cases h1 : dotE d ≠ 0
    · rw [if_pos h1]
      constructor
      · intro h; exact absurd h h1
      · rintro ⟨h, _⟩
        have := h.head
        exact dotE_ok (by omega) (by omega)
    · rw [if_neg h1]
      have hd := dotE_zero (Classical.not_not.1 h1)
      by_cases h2 : d.1 ≤ last
      · rw [if_pos h2]
        constructor
        · intro h; cases h
        · rintro ⟨_, h⟩; have := h d (List.mem_cons_self ..); omega
      · rw [if_neg h2, ih]
        constructor
        · rintro ⟨h3, h4⟩
          refine ⟨⟨?_, List.pairwise_cons.2 ⟨h4, h3.2⟩⟩, ?_⟩
          · intro x hx
            rcases List.mem_cons.1 hx with rfl | hx
            · exact hd
            · exact h3.1 x hx
          · intro x hx
            rcases List.mem_cons.1 hx with rfl | hx
            · omega
            · have := h4 x hx; omega
        · rintro ⟨h3, h4⟩
          exact ⟨h3.tail, h3.less⟩

theorem check_ok {l : List Dot} : checkE (-1) l = 0 ↔ Ok l := by
  rw [check_iff]
  exact ⟨fun h => h.1, fun h => ⟨h, fun d hd => by have := h.1 d hd; omega⟩⟩

theorem cnt_none {l : List Dot} {p : Int} (h : ∀ d ∈ l, d.1 ≠ p) : cnt l p = 0 := by
  induction l with
  | nil => rfl
  | cons d l ih =>
    unfold cnt
    rw [if_neg (h d (List.mem_cons_self ..))]
    exact ih fun x hx => h x (List.mem_cons_of_mem _ hx)
theorem cnt_head (d : Dot) (l : List Dot) : cnt (d :: l) d.1 = d.2 := by unfold cnt; rw [if_pos rfl]
theorem cnt_tail {d : Dot} {l : List Dot} {p : Int} (h : d.1 ≠ p) : cnt (d :: l) p = cnt l p := by rw [cnt, if_neg h]
theorem cnt_nonneg {l : List Dot} (h : Ok l) (p : Int) : 0 ≤ cnt l p := by
  induction l with
  | nil => exact Int.le_refl _
  | cons d l ih =>
    unfold cnt
    split
    · have := h.head; omega
    · exact ih h.tail
theorem cnt_le {l : List Dot} (h : Ok l) (p : Int) : cnt l p ≤ 1048576 := by
  induction l with
  | nil => show (0 : Int) ≤ 1048576; decide
  | cons d l ih =>
    unfold cnt
    split
    · have := h.head; omega
    · exact ih h.tail
theorem cnt_out {l : List Dot} (h : Ok l) {p : Int} (hp : p < 0 ∨ 64 ≤ p) : cnt l p = 0 := cnt_none fun d hd => by have := h.1 d hd; omega

/-- Two vectors of the same counts are the same. -/
theorem ok_ext {l m : List Dot} (hl : Ok l) (hm : Ok m) (h : ∀ p, cnt l p = cnt m p) : l = m := by
  induction l generalizing m with
  | nil =>
    cases m with
    | nil => rfl
    | cons e m =>
      have := h e.1
      rw [cnt_head] at this
      have h2 := hm.head
      simp only [cnt] at this
      omega
  | cons d l ih =>
    cases m with
    | nil =>
      have := h d.1
      rw [cnt_head] at this
      have h2 := hl.head
      simp only [cnt] at this
      omega
    | cons e m =>
      have k1 := hl.head
      have k2 := hm.head
      have hde : d.1 = e.1 := by
        rcases Int.lt_trichotomy d.1 e.1 with ho | ho | ho
        · have := h d.1
          rw [cnt_head, cnt_none (l := e :: m)] at this
          · omega
          · intro x hx
            rcases List.mem_cons.1 hx with rfl | hx
            · omega
            · have := hm.less x hx; omega
        · exact ho
        · have := h e.1
          rw [cnt_head, cnt_none (l := d :: l)] at this
          · omega
          · intro x hx
            rcases List.mem_cons.1 hx with rfl | hx
            · omega
            · have := hl.less x hx; omega
      have h2 : d.2 = e.2 := by
        have := h d.1
        rw [cnt_head, hde, cnt_head] at this
        exact this
      have : d = e := Prod.ext hde h2
      subst this
      congr 1
      refine ih hl.tail hm.tail fun p => ?_
      by_cases hp : d.1 = p
      · rw [cnt_none (l := l), cnt_none (l := m)]
        · intro x hx; have := hm.less x hx; omega
        · intro x hx; have := hl.less x hx; omega
      · have := h p
        rw [cnt_tail hp, cnt_tail hp] at this
        exact this

theorem maxes_cons (x : Int × Int × Int) (l : List (Int × Int × Int)) (h : 0 < max x.2.1 x.2.2) : maxes (x :: l) = (x.1, max x.2.1 x.2.2) :: maxes l := by
  unfold maxes; rw [List.filterMap_cons]; simp [h]

/-- What two vectors come to: a vector of the greater counts. -/
theorem maxes_merge (a b : List Dot) (ha : Ok a) (hb : Ok b) :
    Ok (maxes (merge a b)) ∧ (∀ p, cnt (maxes (merge a b)) p = max (cnt a p) (cnt b p)) ∧ ∀ lo : Int, (∀ d ∈ a, lo < d.1) → (∀ d ∈ b, lo < d.1) → ∀ d ∈ maxes (merge a b), lo < d.1 := by
  fun_induction merge a b with
  | case1 => exact ⟨Ok.nil, fun p => rfl, by simp [maxes]⟩
  | case2 d l ih =>
    obtain ⟨i1, i2, i3⟩ := ih ha.tail hb
    have k := ha.head
    rw [maxes_cons _ _ (by simp only; omega)]
    simp only
    rw [show max d.2 0 = d.2 from by omega]
    refine ⟨⟨?_, List.pairwise_cons.2 ⟨i3 d.1 ha.less (by simp), i1.2⟩⟩, ?_, ?_⟩
    · intro x hx
      rcases List.mem_cons.1 hx with rfl | hx
      · exact k
      · exact i1.1 x hx
    · intro p
      by_cases hp : d.1 = p
      · subst hp; rw [cnt_head d l]; simp only [cnt]; simp; omega
      · rw [cnt_tail hp, cnt_tail (d := (d.1, d.2)) hp]; exact i2 p
    · intro lo h1 h2 x hx
      rcases List.mem_cons.1 hx with rfl | hx
      · exact h1 d (List.mem_cons_self ..)
      · exact i3 lo (fun y hy => h1 y (List.mem_cons_of_mem _ hy)) h2 x hx
  | case3 d l ih =>
    obtain ⟨i1, i2, i3⟩ := ih ha hb.tail
    have k := hb.head
    rw [maxes_cons _ _ (by simp only; omega)]
    simp only
    rw [show max 0 d.2 = d.2 from by omega]
    refine ⟨⟨?_, List.pairwise_cons.2 ⟨i3 d.1 (by simp) hb.less, i1.2⟩⟩, ?_, ?_⟩
    · intro x hx
      rcases List.mem_cons.1 hx with rfl | hx
      · exact k
      · exact i1.1 x hx
    · intro p
      by_cases hp : d.1 = p
      · subst hp; rw [cnt_head d l]; simp only [cnt]; simp; omega
      · rw [cnt_tail hp, cnt_tail (d := (d.1, d.2)) hp]; exact i2 p
    · intro lo h1 h2 x hx
      rcases List.mem_cons.1 hx with rfl | hx
      · exact h2 d (List.mem_cons_self ..)
      · exact i3 lo h1 (fun y hy => h2 y (List.mem_cons_of_mem _ hy)) x hx
  | case4 d l e m ho ih =>
    obtain ⟨i1, i2, i3⟩ := ih ha.tail hb
    have k := ha.head
    have hle : ∀ x ∈ e :: m, d.1 < x.1 := fun x hx => by
      rcases List.mem_cons.1 hx with rfl | hx
      · exact ho
      · have := hb.less x hx; omega
    rw [maxes_cons _ _ (by simp only; omega)]
    simp only
    rw [show max d.2 0 = d.2 from by omega]
    refine ⟨⟨?_, List.pairwise_cons.2 ⟨i3 d.1 ha.less hle, i1.2⟩⟩, ?_, ?_⟩
    · intro x hx
      rcases List.mem_cons.1 hx with rfl | hx
      · exact k
      · exact i1.1 x hx
    · intro p
      by_cases hp : d.1 = p
      · subst hp; rw [cnt_head d l, cnt_none (l := e :: m) fun x hx => by have := hle x hx; omega]; simp only [cnt]; simp; omega
      · rw [cnt_tail hp, cnt_tail (d := (d.1, d.2)) hp]; exact i2 p
    · intro lo h1 h2 x hx
      rcases List.mem_cons.1 hx with rfl | hx
      · exact h1 d (List.mem_cons_self ..)
      · exact i3 lo (fun y hy => h1 y (List.mem_cons_of_mem _ hy)) h2 x hx
  | case5 d l e m ho1 ho ih =>
    obtain ⟨i1, i2, i3⟩ := ih ha hb.tail
    have k := hb.head
    have hle : ∀ x ∈ d :: l, e.1 < x.1 := fun x hx => by
      rcases List.mem_cons.1 hx with rfl | hx
      · exact ho
      · have := ha.less x hx; omega
    rw [maxes_cons _ _ (by simp only; omega)]
    simp only
    rw [show max 0 e.2 = e.2 from by omega]
    refine ⟨⟨?_, List.pairwise_cons.2 ⟨i3 e.1 hle hb.less, i1.2⟩⟩, ?_, ?_⟩
    · intro x hx
      rcases List.mem_cons.1 hx with rfl | hx
      · exact k
      · exact i1.1 x hx
    · intro p
      by_cases hp : e.1 = p
      · subst hp; rw [cnt_head e m, cnt_none (l := d :: l) fun x hx => by have := hle x hx; omega]; simp only [cnt]; simp; omega
      · rw [cnt_tail (d := e) hp, cnt_tail (d := (e.1, e.2)) hp]; exact i2 p
    · intro lo h1 h2 x hx
      rcases List.mem_cons.1 hx with rfl | hx
      · exact h2 e (List.mem_cons_self ..)
      · exact i3 lo h1 (fun y hy => h2 y (List.mem_cons_of_mem _ hy)) x hx
  | case6 d l e m ho1 ho2 ih =>
    obtain ⟨i1, i2, i3⟩ := ih ha.tail hb.tail
    have k := ha.head
    have k2 := hb.head
    have ho : d.1 = e.1 := by omega
    rw [maxes_cons _ _ (by simp only; omega)]
    simp only
    refine ⟨⟨?_, List.pairwise_cons.2 ⟨i3 d.1 ha.less (by rw [ho]; exact hb.less), i1.2⟩⟩, ?_, ?_⟩
    · intro x hx
      rcases List.mem_cons.1 hx with rfl | hx
      · simp only; omega
      · exact i1.1 x hx
    · intro p
      by_cases hp : d.1 = p
      · subst hp; rw [cnt_head d l, ho, cnt_head e m]; simp only [cnt]; simp
      · rw [cnt_tail hp, cnt_tail (d := e) (by omega), cnt_tail (d := (d.1, max d.2 e.2)) hp]; exact i2 p
    · intro lo h1 h2 x hx
      rcases List.mem_cons.1 hx with rfl | hx
      · exact h1 d (List.mem_cons_self ..)
      · exact i3 lo (fun y hy => h1 y (List.mem_cons_of_mem _ hy)) (fun y hy => h2 y (List.mem_cons_of_mem _ hy)) x hx

theorem Ok.fit {l : List Dot} (h : Ok l) : ∀ d ∈ l, Fit d := fun d hd => by
  have := h.1 d hd
  constructor <;> omega

/-- A vector has no more dots than there are peers. -/
theorem ok_length {l : List Dot} (h : Ok l) : l.length ≤ 64 := by
  have : ∀ (l : List Dot) (lo : Int), Ok l → (∀ d ∈ l, lo ≤ d.1) → lo ≤ 64 → (l.length : Int) ≤ 64 - lo := by
    intro l
    induction l with
    | nil => intro lo _ _ h; simp; omega
    | cons d l ih =>
      intro lo h1 h2 h3
      have k := h1.head
      have k2 := h2 d (List.mem_cons_self ..)
      have := ih (d.1 + 1) h1.tail (fun e he => by have := h1.less e he; omega) (by omega)
      simp only [List.length_cons]
      omega
  have := this l 0 h (fun d hd => (h.1 d hd).1) (by decide)
  omega

/-- The vector of counts, peer by peer. -/
def ofCounts (f : Nat → Int) : Nat → List Dot
  | 0 => []
  | k + 1 => ofCounts f k ++ if 0 < f k then [((k : Int), f k)] else []

theorem cnt_app (l m : List Dot) (p : Int) : cnt (l ++ m) p = if (∃ d ∈ l, d.1 = p) then cnt l p else cnt m p := by
  induction l with
  | nil => simp
  | cons d l ih =>
    rw [List.cons_append]
    by_cases hp : d.1 = p
    · rw [if_pos ⟨d, by simp, hp⟩]; unfold cnt; rw [if_pos hp, if_pos hp]
    · rw [cnt_tail hp, ih, cnt_tail hp]
      by_cases he : ∃ d ∈ l, d.1 = p
      · obtain ⟨e, he, hep⟩ := he
        rw [if_pos ⟨e, he, hep⟩, if_pos ⟨e, List.mem_cons_of_mem _ he, hep⟩]
      · rw [if_neg he, if_neg]
        rintro ⟨e, h1, h2⟩
        rcases List.mem_cons.1 h1 with rfl | h1
        · exact hp h2
        · exact he ⟨e, h1, h2⟩

theorem ofCounts_ok (f : Nat → Int) (k : Nat) (hk : k ≤ 64) (hf : ∀ i, i < k → f i ≤ 1048576) :
    Ok (ofCounts f k) ∧ (∀ d ∈ ofCounts f k, d.1 < k) ∧ ∀ i : Nat, i < k → 0 ≤ f i → cnt (ofCounts f k) i = f i := by
  induction k with
  | zero => exact ⟨Ok.nil, by simp [ofCounts], by omega⟩
  | succ k ih =>
    obtain ⟨i1, i2, i3⟩ := ih (by omega) fun i hi => hf i (by omega)
    unfold ofCounts
    by_cases h : 0 < f k
    · rw [if_pos h]
      refine ⟨⟨?_, ?_⟩, ?_, ?_⟩
      · intro d hd
        rcases List.mem_append.1 hd with hd | hd
        · exact i1.1 d hd
        · rw [List.mem_singleton] at hd; subst hd; have := hf k (by omega); simp only; omega
      · rw [List.pairwise_append]
        exact ⟨i1.2, List.pairwise_singleton _ _, fun x hx y hy => by rw [List.mem_singleton] at hy; subst hy; exact i2 x hx⟩
      · intro d hd
        rcases List.mem_append.1 hd with hd | hd
        · have := i2 d hd; omega
        · rw [List.mem_singleton] at hd; subst hd; simp only; omega
      · intro i hi h0
        rw [cnt_app]
        by_cases hik : i = k
        · subst hik
          rw [if_neg (by rintro ⟨d, hd, he⟩; have := i2 d hd; omega)]
          simp [cnt]
        · have := i3 i (by omega) h0
          by_cases he : ∃ d ∈ ofCounts f k, d.1 = i
          · rw [if_pos he]; exact this
          · rw [if_neg he]
            rw [cnt_none fun d hd hh => he ⟨d, hd, hh⟩] at this
            rw [← this]
            simp [cnt]
            omega
    · rw [if_neg h, List.append_nil]
      refine ⟨i1, fun d hd => by have := i2 d hd; omega, fun i hi h0 => ?_⟩
      by_cases hik : i = k
      · subst hik
        rw [cnt_none fun d hd => by have := i2 d hd; omega]
        omega
      · exact i3 i (by omega) h0

/-- What two vectors come to is the vector of the greater counts. -/
theorem join_counts (a b : List Dot) (ha : Ok a) (hb : Ok b) : maxes (merge a b) = ofCounts (fun i => max (cnt a i) (cnt b i)) 64 := by
  obtain ⟨h1, h2, _⟩ := maxes_merge a b ha hb
  have hf : ∀ i, i < 64 → max (cnt a (i : Nat)) (cnt b (i : Nat)) ≤ 1048576 := fun i _ => by have := cnt_le ha i; have := cnt_le hb i; omega
  obtain ⟨k1, k2, k3⟩ := ofCounts_ok (fun i => max (cnt a i) (cnt b i)) 64 (by omega) hf
  refine ok_ext h1 k1 fun p => ?_
  by_cases hp : p < 0 ∨ 64 ≤ p
  · rw [cnt_out h1 hp, cnt_out k1 hp]
  · obtain ⟨i, rfl⟩ := Int.eq_ofNat_of_zero_le (show 0 ≤ p by omega)
    rw [h2, k3 i (by omega) (by have := cnt_nonneg ha i; omega)]

theorem joinL_ok (a b : List Dot) : Ok (joinL a b) := by
  unfold joinL
  split
  · rename_i h; exact (maxes_merge a b (check_ok.1 h.1) (check_ok.1 h.2)).1
  · exact Ok.nil
theorem joinL_cnt {a b : List Dot} (ha : Ok a) (hb : Ok b) (p : Int) : cnt (joinL a b) p = max (cnt a p) (cnt b p) := by
  unfold joinL
  rw [if_pos ⟨check_ok.2 ha, check_ok.2 hb⟩]
  exact (maxes_merge a b ha hb).2.1 p
end Vec

end Go.Proofs.Ytdgjjlffdfpkcaa
