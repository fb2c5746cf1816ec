/- The dots of two sets together; whether a set is within another one. -/
import Derived.Test.YtdgjjlffdfpkcaaDotsTot
namespace Go.Proofs.Ytdgjjlffdfpkcaa

namespace DS
/-- What two sets come to. -/
def start (s t : S) : S := ⟨Vec.joinL s.base t.base, []⟩
def join (s t : S) : S := if check s = 0 ∧ check t = 0 then adds (start s t) (s.extra ++ t.extra) else none

theorem start_ok (s t : S) : Ok (start s t) := ⟨Vec.joinL_ok _ _, by simp [start], by simp [start], .nil⟩
theorem start_has {s t : S} (hs : Ok s) (ht : Ok t) (x : Dot) : Has (start s t) x ↔ 1 ≤ x.2 ∧ (x.2 ≤ Vec.cnt s.base x.1 ∨ x.2 ≤ Vec.cnt t.base x.1) := by
  unfold Has start
  simp only [Vec.joinL_cnt hs.vec ht.vec]
  constructor
  · rintro (⟨h1, h2⟩ | h)
    · exact ⟨h1, by omega⟩
    · simp at h
  · rintro ⟨h1, h2⟩
    exact .inl ⟨h1, by omega⟩

theorem join_ok {s t : S} (hs : Ok s) (ht : Ok t) : Ok (join s t) := by
  unfold join
  rw [if_pos ⟨check_ok.2 hs, check_ok.2 ht⟩]
  exact adds_ok (start_ok s t) _
theorem join_has {s t : S} (hs : Ok s) (ht : Ok t) (x : Dot) : Has (join s t) x ↔ Has s x ∨ Has t x := by
  unfold join
  rw [if_pos ⟨check_ok.2 hs, check_ok.2 ht⟩, adds_has (start_ok s t), start_has hs ht, List.mem_append]
  constructor
  · rintro (⟨h1 | h1, _⟩ | ⟨h1, h2 | h2⟩)
    · exact .inl (.inr h1)
    · exact .inr (.inr h1)
    · exact .inl (.inl ⟨h1, h2⟩)
    · exact .inr (.inl ⟨h1, h2⟩)
  · rintro ((⟨h1, h2⟩ | h1) | (⟨h1, h2⟩ | h1))
    · exact .inr ⟨h1, .inl h2⟩
    · exact .inl ⟨.inl h1, hs.good x h1⟩
    · exact .inr ⟨h1, .inr h2⟩
    · exact .inl ⟨.inr h1, ht.good x h1⟩

/-- The document's way: those alone that the first ones have not. -/
theorem join_later {s t : S} (hs : Ok s) (ht : Ok t) : adds (start s t) ((s.extra ++ t.extra).filter fun d => decide (¬ (1 ≤ d.2 ∧ d.2 ≤ Vec.cnt (start s t).base d.1))) = join s t := by
  unfold join
  rw [if_pos ⟨check_ok.2 hs, check_ok.2 ht⟩]
  refine ext (adds_ok (start_ok s t) _) (adds_ok (start_ok s t) _) fun x => ?_
  rw [adds_has (start_ok s t), adds_has (start_ok s t), List.mem_filter, decide_eq_true_eq]
  constructor
  · rintro (⟨⟨h1, _⟩, h2⟩ | h1)
    · exact .inl ⟨h1, h2⟩
    · exact .inr h1
  · rintro (⟨h1, h2⟩ | h1)
    · by_cases h : 1 ≤ x.2 ∧ x.2 ≤ Vec.cnt (start s t).base x.1
      · exact .inr (.inl h)
      · exact .inl ⟨⟨h1, h⟩, h2⟩
    · exact .inr h1

/-- The program's way: the dots in their order, each once; those that the first ones have are let go. -/
def put (s : S) (d : Dot) : S := if 1 ≤ d.2 ∧ d.2 ≤ Vec.cnt s.base d.1 then s else plus s d
theorem done_base {p : Int} : ∀ (n : Nat) (s : S), s.extra.length = n → Semi p s → ∀ x ∈ (done p s).extra, x ∈ s.extra := fun n s h1 h2 => (done_extra n s h1 h2).2
theorem put_add {s : S} (h : Ok s) {d : Dot} (hg : Good d) (hn : ∀ x ∈ s.extra, lt x d) : put s d = (add s d).1 ∧ ∀ x ∈ (put s d).extra, lt x d ∨ x = d := by
  unfold put
  by_cases hc : 1 ≤ d.2 ∧ d.2 ≤ Vec.cnt s.base d.1
  · rw [if_pos hc, add_no fun ⟨_, _, h⟩ => h (.inl hc)]
    exact ⟨rfl, fun x hx => .inl (hn x hx)⟩
  · have hh : ¬ Has s d := by
      rintro (h1 | h1)
      · exact hc h1
      · exact lt_irrefl _ (hn d h1)
    rw [if_neg hc, add_yes h hg hh]
    refine ⟨rfl, fun x hx => ?_⟩
    rcases (mem_ins d x _).1 (done_base _ _ rfl (plus_semi h hg hh) x hx) with h1 | h1
    · exact .inr h1
    · exact .inl (hn x h1)
theorem puts_adds (l : List Dot) : ∀ (s : S), Ok s → (∀ d ∈ l, Good d) → l.Pairwise lt → (∀ x ∈ s.extra, ∀ d ∈ l, lt x d) → l.foldl put s = adds s l := by
  induction l with
  | nil => intro s _ _ _ _; rfl
  | cons d l ih =>
    intro s h hg hs hn
    have k := List.pairwise_cons.1 hs
    obtain ⟨k1, k2⟩ := put_add h (hg d (List.mem_cons_self ..)) fun x hx => hn x hx d (List.mem_cons_self ..)
    show l.foldl put (put s d) = adds (add s d).1 l
    rw [← k1]
    refine ih _ ?_ (fun x hx => hg x (List.mem_cons_of_mem _ hx)) k.2 fun x hx e he => ?_
    · rw [k1]; exact add_ok d h
    · rcases k2 x hx with h1 | rfl
      · exact lt_trans h1 (k.1 e he)
      · exact k.1 e he
theorem join_puts {s t : S} (hs : Ok s) (ht : Ok t) {l : List Dot} (hl : l.Pairwise lt) (hm : ∀ x, x ∈ l ↔ x ∈ s.extra ++ t.extra) : l.foldl put (start s t) = join s t := by
  unfold join
  rw [if_pos ⟨check_ok.2 hs, check_ok.2 ht⟩, puts_adds l _ (start_ok s t) (fun d hd => ?_) hl (by simp [start])]
  · exact adds_same (start_ok s t) hm
  · rcases List.mem_append.1 ((hm d).1 hd) with h | h
    · exact hs.good d h
    · exact ht.good d h

/-- Whether a set is within another one. -/
def within (s t : S) : Bool := decide (check s = 0 ∧ check t = 0 ∧ (join s t).base = t.base ∧ (join s t).extra = t.extra)
def Within (s t : S) : Prop := (∀ d ∈ s.base ++ s.extra, Has t d) ∧ ∀ d ∈ s.base, d.2 ≤ Vec.cnt t.base d.1
instance (s t : S) : Decidable (Within s t) := by unfold Within; infer_instance
theorem sub_iff {s t : S} (hs : Ok s) (ht : Ok t) : Within s t ↔ ∀ x, Has s x → Has t x := by
  constructor
  · rintro ⟨h1, h2⟩ x (⟨h3, h4⟩ | h3)
    · obtain ⟨d, hd, e1, e2⟩ := mem_cnt (l := s.base) (p := x.1) (by omega)
      have := h2 d hd
      rw [e1] at this
      exact .inl ⟨h3, by omega⟩
    · exact h1 x (List.mem_append_right _ h3)
  · intro h
    refine ⟨fun d hd => ?_, fun d hd => ?_⟩
    · rcases List.mem_append.1 hd with hd | hd
      · have := cnt_mem hs.vec hd
        have h1 := hs.vec.1 d hd
        exact h d (.inl ⟨h1.2.2.1, by omega⟩)
      · exact h d (.inr hd)
    · apply Classical.byContradiction
      intro hlt
      have h1 := cnt_mem hs.vec hd
      have h2 := Vec.cnt_nonneg ht.vec d.1
      exact not_next ht d.1 (h _ (.inl ⟨by simp only; omega, by simp only; omega⟩))
theorem eq_iff (s t : S) : (s.base = t.base ∧ s.extra = t.extra) ↔ s = t := by cases s; cases t; simp
theorem within_iff {s t : S} (hs : Ok s) (ht : Ok t) : join s t = t ↔ Within s t := by
  rw [sub_iff hs ht]
  constructor
  · intro h x hx
    rw [← h, join_has hs ht]
    exact .inl hx
  · intro h
    refine ext (join_ok hs ht) ht fun x => ?_
    rw [join_has hs ht]
    exact ⟨fun h' => h'.elim (h x) id, .inr⟩
end DS

end Go.Proofs.Ytdgjjlffdfpkcaa
