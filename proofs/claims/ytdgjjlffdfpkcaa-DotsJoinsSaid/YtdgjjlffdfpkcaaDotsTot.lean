/- How many dots a set has; sets that many dots were put into; the dots of two sets. -/
import Derived.Test.YtdgjjlffdfpkcaaDotsPlain
namespace Go.Proofs.Ytdgjjlffdfpkcaa

namespace DS
/-- The counts of some first peers together. -/
def sumTo (f : Nat → Int) : Nat → Int
  | 0 => 0
  | k + 1 => sumTo f k + f k
theorem sumTo_congr {f g : Nat → Int} {k : Nat} (h : ∀ i, i < k → f i = g i) : sumTo f k = sumTo g k := by
  induction k with
  | zero => rfl
  | succ k ih => unfold sumTo; rw [ih fun i hi => h i (by omega), h k (by omega)]
theorem sumTo_one {f g : Nat → Int} {k p : Nat} (hp : p < k) (h : ∀ i, i < k → g i = if i = p then f i + 1 else f i) : sumTo g k = sumTo f k + 1 := by
  induction k with
  | zero => omega
  | succ k ih =>
    unfold sumTo
    by_cases hk : p = k
    · subst hk
      rw [sumTo_congr (g := f) fun i hi => by rw [h i (by omega), if_neg (by omega)], h p (by omega), if_pos rfl]
      omega
    · rw [ih (by omega) fun i hi => h i (by omega), h k (by omega), if_neg (fun e => hk e.symm)]
      omega
theorem sumTo_bound {f : Nat → Int} {k : Nat} {B : Int} (h : ∀ i, i < k → 0 ≤ f i ∧ f i ≤ B) : 0 ≤ sumTo f k ∧ sumTo f k ≤ k * B := by
  induction k with
  | zero => simp [sumTo]
  | succ k ih =>
    have h1 := ih fun i hi => h i (by omega)
    have h2 := h k (by omega)
    unfold sumTo
    rw [show (((k + 1 : Nat) : Int)) = (k : Int) + 1 from by omega, Int.add_mul]
    omega

/-- The counts of a list together. -/
def tot : List Dot → Int
  | [] => 0
  | d :: l => d.2 + tot l
theorem tot_app (l m : List Dot) : tot (l ++ m) = tot l + tot m := by
  induction l with
  | nil => simp [tot]
  | cons d l ih => rw [List.cons_append, tot, tot, ih]; omega
theorem tot_ofCounts (f : Nat → Int) (k : Nat) (h : ∀ i, i < k → 0 ≤ f i) : tot (Vec.ofCounts f k) = sumTo f k := by
  induction k with
  | zero => rfl
  | succ k ih =>
    unfold Vec.ofCounts sumTo
    rw [tot_app, ih fun i hi => h i (by omega)]
    have := h k (by omega)
    split
    · simp [tot]
    · simp only [tot]; omega
theorem ok_ofCounts {l : List Dot} (h : Vec.Ok l) : l = Vec.ofCounts (fun i => Vec.cnt l i) 64 := by
  obtain ⟨k1, k2, k3⟩ := Vec.ofCounts_ok (fun i => Vec.cnt l i) 64 (by omega) fun i _ => Vec.cnt_le h i
  refine Vec.ok_ext h k1 fun p => ?_
  by_cases hp : p < 0 ∨ 64 ≤ p
  · rw [Vec.cnt_out h hp, Vec.cnt_out k1 hp]
  · obtain ⟨i, rfl⟩ := Int.eq_ofNat_of_zero_le (show 0 ≤ p by omega)
    exact (k3 i (by omega) (Vec.cnt_nonneg h i)).symm
theorem tot_eq {l : List Dot} (h : Vec.Ok l) : tot l = sumTo (fun i => Vec.cnt l i) 64 := by
  conv => lhs; rw [ok_ofCounts h]
  exact tot_ofCounts _ _ fun i _ => Vec.cnt_nonneg h i
theorem tot_bound {l : List Dot} (h : Vec.Ok l) : 0 ≤ tot l ∧ tot l ≤ 67108864 := by
  rw [tot_eq h]
  have := sumTo_bound (f := fun i => Vec.cnt l i) (k := 64) (B := 1048576) fun i _ => ⟨Vec.cnt_nonneg h i, Vec.cnt_le h i⟩
  omega

theorem cnt_mem {l : List Dot} (h : Vec.Ok l) {d : Dot} (hd : d ∈ l) : Vec.cnt l d.1 = d.2 := by
  induction l with
  | nil => cases hd
  | cons e l ih =>
    rcases List.mem_cons.1 hd with rfl | hd
    · exact Vec.cnt_head _ _
    · have := h.less d hd
      rw [Vec.cnt_tail (by omega)]
      exact ih h.tail hd
theorem mem_cnt {l : List Dot} {p : Int} (h : Vec.cnt l p ≠ 0) : ∃ d ∈ l, d.1 = p ∧ d.2 = Vec.cnt l p := by
  induction l with
  | nil => exact absurd rfl h
  | cons e l ih =>
    by_cases hp : e.1 = p
    · exact ⟨e, List.mem_cons_self .., hp, by rw [← hp, Vec.cnt_head]⟩
    · rw [Vec.cnt_tail hp] at h ⊢
      obtain ⟨d, h1, h2, h3⟩ := ih h
      exact ⟨d, List.mem_cons_of_mem _ h1, h2, h3⟩
/-- How many dots a set has. -/
def size (s : S) : Int := tot s.base + s.extra.length
/-- .. as the functions tell. -/
def len (s : S) : Int := if check s = 0 then size s else 0

theorem moved_size {p : Int} {s : S} (h : Semi p s) (hn : next p s ∈ s.extra) : size (moved p s) = size s := by
  have hg := h.good _ hn
  have hl := moved_length h hn
  unfold Good next at hg
  simp only at hg
  have ht : tot (moved p s).base = tot s.base + 1 := by
    rw [tot_eq (moved_semi h hn).vec, tot_eq h.vec]
    refine sumTo_one (p := p.toNat) (by omega) fun i _ => ?_
    rw [moved_cnt h hn]
    by_cases hi : i = p.toNat
    · subst hi
      rw [if_pos rfl, if_pos (by omega), show ((p.toNat : Nat) : Int) = p by omega]
    · rw [if_neg hi, if_neg (by omega)]
  unfold size
  omega
theorem done_size {p : Int} : ∀ (n : Nat) (s : S), s.extra.length = n → Semi p s → size (done p s) = size s := by
  intro n
  induction n with
  | zero =>
    intro s hl h
    have hn : next p s ∉ s.extra := by rw [List.length_eq_zero_iff.1 hl]; simp
    rw [done_end hn]
  | succ n ih =>
    intro s hl h
    by_cases hn : next p s ∈ s.extra
    · rw [done_next h hn, ih (moved p s) (by have := moved_length h hn; omega) (moved_semi h hn), moved_size h hn]
    · rw [done_end hn]
theorem plus_size {s : S} {d : Dot} (h : Ok s) (hd : Good d) (hn : ¬ Has s d) : size (plus s d) = size s + 1 := by
  rw [plus, done_size _ _ rfl (plus_semi h hd hn)]
  unfold size
  simp only [ins_length]
  omega

theorem done_extra {p : Int} : ∀ (n : Nat) (s : S), s.extra.length = n → Semi p s → (done p s).extra.length ≤ n ∧ ∀ x ∈ (done p s).extra, x ∈ s.extra := by
  intro n
  induction n with
  | zero =>
    intro s hl h
    have hn : next p s ∉ s.extra := by rw [List.length_eq_zero_iff.1 hl]; simp
    rw [done_end hn]
    exact ⟨by omega, fun x h => h⟩
  | succ n ih =>
    intro s hl h
    by_cases hn : next p s ∈ s.extra
    · rw [done_next h hn]
      obtain ⟨k1, k2⟩ := ih (moved p s) (by have := moved_length h hn; omega) (moved_semi h hn)
      refine ⟨by omega, fun x hx => ?_⟩
      exact (List.mem_filter.1 (k2 x hx)).1
    · rw [done_end hn]
      exact ⟨by omega, fun x h => h⟩
theorem plus_extra {s : S} {d : Dot} (h : Ok s) (hd : Good d) (hn : ¬ Has s d) : (plus s d).extra.length ≤ s.extra.length + 1 := by
  have := (done_extra _ _ rfl (plus_semi h hd hn)).1
  simp only [ins_length] at this
  exact this

theorem add_yes {s : S} {d : Dot} (h : Ok s) (hd : Good d) (hn : ¬ Has s d) : add s d = (plus s d, true) := if_pos ⟨check_ok.2 h, hd, hn⟩
theorem add_no {s : S} {d : Dot} (h : ¬ (Ok s ∧ Good d ∧ ¬ Has s d)) : add s d = (s, false) := if_neg fun ⟨a, b, c⟩ => h ⟨check_ok.1 a, b, c⟩
theorem add_ok {s : S} (d : Dot) (h : Ok s) : Ok (add s d).1 := by
  by_cases hc : Good d ∧ ¬ Has s d
  · rw [add_yes h hc.1 hc.2]; exact plus_ok h hc.1 hc.2
  · rw [add_no fun ⟨_, b, c⟩ => hc ⟨b, c⟩]; exact h
theorem add_has {s : S} (d : Dot) (h : Ok s) (x : Dot) : Has (add s d).1 x ↔ (x = d ∧ Good d) ∨ Has s x := by
  by_cases hc : Good d ∧ ¬ Has s d
  · rw [add_yes h hc.1 hc.2, plus_has h hc.1 hc.2]
    simp only [hc.1, and_true]
  · rw [add_no fun ⟨_, b, c⟩ => hc ⟨b, c⟩]
    refine ⟨.inr, ?_⟩
    rintro (⟨rfl, h1⟩ | h1)
    · by_cases h2 : Has s x
      · exact h2
      · exact absurd ⟨h1, h2⟩ hc
    · exact h1
theorem add_size {s : S} (d : Dot) (h : Ok s) : size (add s d).1 = size s + if (add s d).2 then 1 else 0 := by
  by_cases hc : Good d ∧ ¬ Has s d
  · rw [add_yes h hc.1 hc.2]; exact plus_size h hc.1 hc.2
  · rw [add_no fun ⟨_, b, c⟩ => hc ⟨b, c⟩]; simp
theorem add_extra {s : S} (d : Dot) (h : Ok s) : (add s d).1.extra.length ≤ s.extra.length + 1 := by
  by_cases hc : Good d ∧ ¬ Has s d
  · rw [add_yes h hc.1 hc.2]; exact plus_extra h hc.1 hc.2
  · rw [add_no fun ⟨_, b, c⟩ => hc ⟨b, c⟩]; simp

/-- The set of nothing. -/
def none : S := ⟨[], []⟩
theorem none_ok : Ok none := ⟨Vec.Ok.nil, by simp [none], by simp [none], .nil⟩
theorem none_has (x : Dot) : ¬ Has none x := by
  rintro (⟨h1, h2⟩ | h)
  · simp only [none, Vec.cnt] at h2; omega
  · simp [none] at h

/-- A set that many dots were put into, one behind the other. -/
def adds (s : S) (l : List Dot) : S := l.foldl (fun s d => (add s d).1) s
theorem adds_next (s : S) (l : List Dot) (d : Dot) : adds s (l ++ [d]) = (add (adds s l) d).1 := by unfold adds; rw [List.foldl_append]; rfl
theorem adds_ok {s : S} (h : Ok s) (l : List Dot) : Ok (adds s l) := by
  induction l generalizing s with
  | nil => exact h
  | cons d l ih => exact ih (add_ok d h)
theorem adds_has {s : S} (h : Ok s) (l : List Dot) (x : Dot) : Has (adds s l) x ↔ (x ∈ l ∧ Good x) ∨ Has s x := by
  induction l generalizing s with
  | nil => simp [adds]
  | cons d l ih =>
    show Has (adds (add s d).1 l) x ↔ _
    rw [ih (add_ok d h), add_has d h, List.mem_cons]
    constructor
    · rintro (⟨h1, h2⟩ | ⟨rfl, h1⟩ | h1)
      · exact .inl ⟨.inr h1, h2⟩
      · exact .inl ⟨.inl rfl, h1⟩
      · exact .inr h1
    · rintro (⟨rfl | h1, h2⟩ | h1)
      · exact .inr (.inl ⟨rfl, h2⟩)
      · exact .inl ⟨h1, h2⟩
      · exact .inr (.inr h1)
theorem adds_extra {s : S} (h : Ok s) (l : List Dot) : (adds s l).extra.length ≤ s.extra.length + l.length := by
  induction l generalizing s with
  | nil => simp [adds]
  | cons d l ih =>
    have h1 := ih (add_ok d h)
    have h2 := add_extra d h
    show (adds (add s d).1 l).extra.length ≤ _
    rw [List.length_cons]
    omega
/-- Whichever of two lists of the same dots: the same set. -/
theorem adds_same {s : S} (h : Ok s) {l m : List Dot} (hm : ∀ x, x ∈ l ↔ x ∈ m) : adds s l = adds s m :=
  ext (adds_ok h l) (adds_ok h m) fun x => by rw [adds_has h, adds_has h, hm]
end DS

end Go.Proofs.Ytdgjjlffdfpkcaa
