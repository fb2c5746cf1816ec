/- Sets of dots by what they have: two that may be and have the same are the same; what a set with a dot is. -/
import Derived.Test.YtdgjjlffdfpkcaaVecPlain
namespace Go.Proofs.Ytdgjjlffdfpkcaa

namespace DS
/-- Does a dot stand ahead of another one? -/
def lt (a b : Dot) : Prop := a.1 < b.1 ∨ a.1 = b.1 ∧ a.2 < b.2
instance (a b : Dot) : Decidable (lt a b) := by unfold lt; infer_instance
theorem lt_trans {a b c : Dot} (h : lt a b) (k : lt b c) : lt a c := by unfold lt at *; omega
theorem lt_irrefl (a : Dot) : ¬ lt a a := by unfold lt; omega
theorem lt_tri (a b : Dot) : lt a b ∨ a = b ∨ lt b a := by
  obtain ⟨a1, a2⟩ := a
  obtain ⟨b1, b2⟩ := b
  simp only [lt, Prod.mk.injEq]
  omega

/-- A set: a vector, and further dots. -/
structure S where
  base : List Dot
  extra : List Dot

instance : DecidableEq S := fun s t => decidable_of_iff (s.base = t.base ∧ s.extra = t.extra) (by cases s; cases t; simp)
/-- Does the dot ahead stand ahead? -/
def after : Option Dot → Dot → Bool
  | none, _ => true
  | some p, d => decide (lt p d)

/-- Why further dots may not be. -/
def exE (base : List Dot) : Option Dot → List Dot → Nat
  | _, [] => 0
  | prev, d :: l => if Vec.dotE d ≠ 0 then Vec.dotE d else if after prev d = false then 8 else if d.2 ≤ Vec.cnt base d.1 + 1 then 7 else exE base (some d) l

/-- Why a set may not be. -/
def check (s : S) : Nat := if Vec.checkE (-1) s.base ≠ 0 then Vec.checkE (-1) s.base else exE s.base none s.extra

/-- A dot that may be. -/
def Good (d : Dot) : Prop := 0 ≤ d.1 ∧ d.1 < 64 ∧ 1 ≤ d.2 ∧ d.2 ≤ 1048576
theorem good_iff {d : Dot} : Vec.dotE d = 0 ↔ Good d := ⟨Vec.dotE_zero, fun h => Vec.dotE_ok (by unfold Good at h; omega) (by unfold Good at h; omega)⟩
theorem Good.fit {d : Dot} (h : Good d) : Fit d := by unfold Good at h; constructor <;> omega

/-- A set that may be. -/
structure Ok (s : S) : Prop where
  vec : Vec.Ok s.base
  good : ∀ d ∈ s.extra, Good d
  far : ∀ d ∈ s.extra, Vec.cnt s.base d.1 + 2 ≤ d.2
  sorted : s.extra.Pairwise lt

theorem exE_iff (base : List Dot) (prev : Option Dot) (l : List Dot) :
    exE base prev l = 0 ↔ (∀ d ∈ l, Good d) ∧ (∀ d ∈ l, Vec.cnt base d.1 + 2 ≤ d.2) ∧ l.Pairwise lt ∧ (∀ p, prev = some p → ∀ d ∈ l, lt p d) := by
  induction l generalizing prev with
  | nil => simp [exE]
  | cons d l ih =>
    unfold exE
    by_cases h1 : Vec.dotE d ≠ 0
    · rw [if_pos h1]
      exact ⟨fun h => absurd h h1, fun ⟨h, _⟩ => good_iff.2 (h d (List.mem_cons_self ..))⟩
    · rw [if_neg h1]
      have hg := good_iff.1 (Classical.not_not.1 h1)
      by_cases h2 : after prev d = false
      · rw [if_pos h2]
        refine ⟨fun h => (by cases h), fun ⟨_, _, _, h⟩ => ?_⟩
        cases prev with
        | none => cases h2
        | some p => have := h p rfl d (List.mem_cons_self ..); simp [after, this] at h2
      · rw [if_neg h2]
        by_cases h3 : d.2 ≤ Vec.cnt base d.1 + 1
        · rw [if_pos h3]
          refine ⟨fun h => (by cases h), fun ⟨_, h, _⟩ => ?_⟩
          have := h d (List.mem_cons_self ..); omega
        · rw [if_neg h3, ih]
          have h2' : ∀ p, prev = some p → lt p d := by
            intro p hp; subst hp; simpa [after] using h2
          constructor
          · rintro ⟨k1, k2, k3, k4⟩
            refine ⟨?_, ?_, List.pairwise_cons.2 ⟨k4 d rfl, k3⟩, ?_⟩
            · intro x hx
              rcases List.mem_cons.1 hx with rfl | hx
              · exact hg
              · exact k1 x hx
            · intro x hx
              rcases List.mem_cons.1 hx with rfl | hx
              · omega
              · exact k2 x hx
            · intro p hp x hx
              rcases List.mem_cons.1 hx with rfl | hx
              · exact h2' p hp
              · exact lt_trans (h2' p hp) (k4 d rfl x hx)
          · rintro ⟨k1, k2, k3, k4⟩
            have k3 := List.pairwise_cons.1 k3
            exact ⟨fun x hx => k1 x (List.mem_cons_of_mem _ hx), fun x hx => k2 x (List.mem_cons_of_mem _ hx), k3.2, fun p hp x hx => by cases hp; exact k3.1 x hx⟩

theorem check_ok {s : S} : check s = 0 ↔ Ok s := by
  unfold check
  by_cases h : Vec.checkE (-1) s.base ≠ 0
  · rw [if_pos h]
    exact ⟨fun h' => absurd h' h, fun h' => Vec.check_ok.2 h'.vec⟩
  · rw [if_neg h, exE_iff]
    have hv := Vec.check_ok.1 (Classical.not_not.1 h)
    exact ⟨fun ⟨k1, k2, k3, _⟩ => ⟨hv, k1, k2, k3⟩, fun ⟨_, k1, k2, k3⟩ => ⟨k1, k2, k3, fun p hp => by cases hp⟩⟩

/-- What a set has. -/
def Has (s : S) (d : Dot) : Prop := (1 ≤ d.2 ∧ d.2 ≤ Vec.cnt s.base d.1) ∨ d ∈ s.extra
instance (s : S) (d : Dot) : Decidable (Has s d) := by unfold Has; infer_instance
/-- .. as the functions tell: none where it may not be. -/
def has (s : S) (d : Dot) : Bool := decide (check s = 0) && decide (Has s d)

theorem Has.good {s : S} (h : Ok s) {d : Dot} (hd : Has s d) : Good d := by
  rcases hd with ⟨h1, h2⟩ | h1
  · by_cases hp : d.1 < 0 ∨ 64 ≤ d.1
    · have := Vec.cnt_out h.vec hp; omega
    · have := Vec.cnt_le h.vec d.1
      unfold Good; omega
  · exact h.good d h1

/-- The dot behind the first ones is not there. -/
theorem not_next {s : S} (h : Ok s) (p : Int) : ¬ Has s (p, Vec.cnt s.base p + 1) := by
  rintro (⟨_, h2⟩ | h2)
  · simp only at h2; omega
  · have := h.far _ h2; simp only at this; omega

theorem cnt_eq {s t : S} (hs : Ok s) (ht : Ok t) (h : ∀ d, Has s d ↔ Has t d) (p : Int) : Vec.cnt s.base p = Vec.cnt t.base p := by
  have a := Vec.cnt_nonneg hs.vec p
  have b := Vec.cnt_nonneg ht.vec p
  rcases Int.lt_trichotomy (Vec.cnt s.base p) (Vec.cnt t.base p) with ho | ho | ho
  · exact absurd ((h _).2 (.inl ⟨by simp only; omega, by simp only; omega⟩)) (not_next hs p)
  · exact ho
  · exact absurd ((h _).1 (.inl ⟨by simp only; omega, by simp only; omega⟩)) (not_next ht p)

theorem sorted_ext {l m : List Dot} (hl : l.Pairwise lt) (hm : m.Pairwise lt) (h : ∀ x, x ∈ l ↔ x ∈ m) : l = m := by
  induction l generalizing m with
  | nil =>
    cases m with
    | nil => rfl
    | cons e m => exact absurd ((h e).2 (List.mem_cons_self ..)) (by simp)
  | cons d l ih =>
    cases m with
    | nil => exact absurd ((h d).1 (List.mem_cons_self ..)) (by simp)
    | cons e m =>
      have kl := List.pairwise_cons.1 hl
      have km := List.pairwise_cons.1 hm
      have hde : d = e := by
        rcases List.mem_cons.1 ((h d).1 (List.mem_cons_self ..)) with h1 | h1
        · exact h1
        · rcases List.mem_cons.1 ((h e).2 (List.mem_cons_self ..)) with h2 | h2
          · exact h2.symm
          · exact absurd (lt_trans (kl.1 e h2) (km.1 d h1)) (lt_irrefl _)
      subst hde
      congr 1
      refine ih kl.2 km.2 fun x => ?_
      constructor
      · intro hx
        rcases List.mem_cons.1 ((h x).1 (List.mem_cons_of_mem _ hx)) with rfl | h1
        · exact absurd (kl.1 _ hx) (lt_irrefl _)
        · exact h1
      · intro hx
        rcases List.mem_cons.1 ((h x).2 (List.mem_cons_of_mem _ hx)) with rfl | h1
        · exact absurd (km.1 _ hx) (lt_irrefl _)
        · exact h1

/-- Two sets that may be and have the same are the same. -/
theorem ext {s t : S} (hs : Ok s) (ht : Ok t) (h : ∀ d, Has s d ↔ Has t d) : s = t := by
  have hb : s.base = t.base := Vec.ok_ext hs.vec ht.vec (cnt_eq hs ht h)
  have he : s.extra = t.extra := by
    refine sorted_ext hs.sorted ht.sorted fun x => ?_
    have hc := cnt_eq hs ht h x.1
    constructor
    · intro hx
      rcases (h x).1 (.inr hx) with ⟨h1, h2⟩ | h1
      · have := hs.far x hx; omega
      · exact h1
    · intro hx
      rcases (h x).2 (.inr hx) with ⟨h1, h2⟩ | h1
      · have := ht.far x hx; omega
      · exact h1
  cases s; cases t; simp_all

/-- Further dots, with one more. -/
def ins (d : Dot) : List Dot → List Dot
  | [] => [d]
  | e :: l => if lt e d then e :: ins d l else d :: e :: l
theorem mem_ins (d x : Dot) (l : List Dot) : x ∈ ins d l ↔ x = d ∨ x ∈ l := by
  induction l with
  | nil => simp [ins]
  | cons e l ih =>
    unfold ins
    split
    · rw [List.mem_cons, ih, List.mem_cons]
      constructor
      · rintro (h | h | h) <;> simp [h]
      · rintro (h | h | h) <;> simp [h]
    · rw [List.mem_cons]
theorem ins_length (d : Dot) (l : List Dot) : (ins d l).length = l.length + 1 := by
  induction l with
  | nil => rfl
  | cons e l ih => unfold ins; split <;> simp [ih]
theorem ins_sorted {d : Dot} {l : List Dot} (h : l.Pairwise lt) (hd : d ∉ l) : (ins d l).Pairwise lt := by
  induction l with
  | nil => exact List.pairwise_singleton _ _
  | cons e l ih =>
    have k := List.pairwise_cons.1 h
    unfold ins
    split
    · rename_i h1
      refine List.pairwise_cons.2 ⟨fun x hx => ?_, ih k.2 fun hx => hd (List.mem_cons_of_mem _ hx)⟩
      rcases (mem_ins d x l).1 hx with rfl | hx
      · exact h1
      · exact k.1 x hx
    · rename_i h1
      have hlt : lt d e := by
        rcases lt_tri d e with h2 | h2 | h2
        · exact h2
        · subst h2; exact absurd (List.mem_cons_self ..) hd
        · exact absurd h2 h1
      refine List.pairwise_cons.2 ⟨fun x hx => ?_, h⟩
      rcases List.mem_cons.1 hx with rfl | hx
      · exact hlt
      · exact lt_trans hlt (k.1 x hx)
/-- A dot that is put where it stands. -/
theorem ins_at (d : Dot) (l : List Dot) (i : Nat) (hi : i ≤ l.length) (h1 : ∀ m (h : m < l.length), m < i → lt l[m] d) (h2 : ∀ m (h : m < l.length), i ≤ m → ¬ lt l[m] d) : ins d l = l.take i ++ d :: l.drop i := by
  induction l generalizing i with
  | nil => obtain rfl : i = 0 := by simpa using hi
           rfl
  | cons e l ih =>
    cases i with
    | zero =>
      have : ¬ lt e d := h2 0 (by simp) (by omega)
      unfold ins
      rw [if_neg this]
      rfl
    | succ i =>
      have : lt e d := h1 0 (by simp) (by omega)
      unfold ins
      rw [if_pos this, ih i (by simpa using hi) (fun m h hm => h1 (m + 1) (by simpa using h) (by omega)) (fun m h hm => h2 (m + 1) (by simpa using h) (by omega))]
      rfl
/-- A dot behind all stands at the end. -/
theorem ins_end (d : Dot) (l : List Dot) (h : ∀ x ∈ l, lt x d) : ins d l = l ++ [d] := by
  have := ins_at d l l.length (Nat.le_refl _) (fun m hm _ => h _ (List.getElem_mem _)) (fun m hm h2 => by omega)
  simpa using this

/-- The dot behind a peer's first ones. -/
def next (p : Int) (s : S) : Dot := (p, Vec.cnt s.base p + 1)
/-- .. is moved to the first ones. -/
def moved (p : Int) (s : S) : S := ⟨Vec.joinL s.base [next p s], s.extra.filter fun d => decide (d ≠ next p s)⟩
/-- As long as the dot behind the first ones is there, it is moved to them. -/
def settle (p : Int) : Nat → S → S
  | 0, s => s
  | n + 1, s => if next p s ∈ s.extra then settle p n (moved p s) else s

/-- On the way: a dot may stand right behind the first ones of its peer. -/
structure Semi (p : Int) (s : S) : Prop where
  vec : Vec.Ok s.base
  good : ∀ d ∈ s.extra, Good d
  near : ∀ d ∈ s.extra, Vec.cnt s.base d.1 + 1 ≤ d.2
  far : ∀ d ∈ s.extra, d.1 ≠ p → Vec.cnt s.base d.1 + 2 ≤ d.2
  sorted : s.extra.Pairwise lt

theorem Semi.ok {p : Int} {s : S} (h : Semi p s) (hn : next p s ∉ s.extra) : Ok s := by
  refine ⟨h.vec, h.good, fun d hd => ?_, h.sorted⟩
  by_cases hp : d.1 = p
  · have h1 := h.near d hd
    have h2 : d.2 ≠ Vec.cnt s.base d.1 + 1 := fun e => hn (by
      have : d = next p s := by unfold next; exact Prod.ext hp (by rw [e, hp])
      rw [← this]; exact hd)
    omega
  · exact h.far d hd hp

theorem vec_one {d : Dot} (h : Good d) : Vec.Ok [d] := ⟨fun x hx => by rw [List.mem_singleton] at hx; subst hx; exact h, List.pairwise_singleton _ _⟩
theorem cnt_one (d : Dot) (q : Int) : Vec.cnt [d] q = if d.1 = q then d.2 else 0 := by simp [Vec.cnt]

theorem moved_cnt {p : Int} {s : S} (h : Semi p s) (hn : next p s ∈ s.extra) (q : Int) : Vec.cnt (moved p s).base q = if q = p then Vec.cnt s.base p + 1 else Vec.cnt s.base q := by
  have hg := h.good _ hn
  have h0 := Vec.cnt_nonneg h.vec q
  unfold moved
  simp only
  rw [Vec.joinL_cnt h.vec (vec_one hg), cnt_one]
  unfold next
  simp only
  by_cases hq : q = p
  · subst hq; rw [if_pos rfl, if_pos rfl]; omega
  · rw [if_neg (fun e => hq e.symm), if_neg hq]; omega

theorem moved_semi {p : Int} {s : S} (h : Semi p s) (hn : next p s ∈ s.extra) : Semi p (moved p s) := by
  refine ⟨Vec.joinL_ok _ _, fun d hd => h.good d (List.mem_filter.1 hd).1, fun d hd => ?_, fun d hd hp => ?_, h.sorted.filter _⟩
  · obtain ⟨h1, h2⟩ := List.mem_filter.1 hd
    rw [moved_cnt h hn]
    have h3 := h.near d h1
    have h4 : d ≠ next p s := by simpa using h2
    split
    · rename_i hp
      have : d.2 ≠ Vec.cnt s.base p + 1 := fun e => h4 (Prod.ext hp e)
      rw [hp] at h3
      omega
    · exact h3
  · obtain ⟨h1, _⟩ := List.mem_filter.1 hd
    rw [moved_cnt h hn, if_neg hp]
    exact h.far d h1 hp

theorem moved_has {p : Int} {s : S} (h : Semi p s) (hn : next p s ∈ s.extra) (x : Dot) : Has (moved p s) x ↔ Has s x := by
  have h0 := Vec.cnt_nonneg h.vec p
  have hm : x ∈ (moved p s).extra ↔ x ∈ s.extra ∧ x ≠ next p s := by unfold moved; simp
  unfold Has
  rw [hm, moved_cnt h hn]
  by_cases hx : x = next p s
  · subst hx
    refine ⟨fun _ => .inr hn, fun _ => .inl ?_⟩
    unfold next
    simp only [if_true]
    omega
  · have hxe : ¬ (x.1 = p ∧ x.2 = Vec.cnt s.base p + 1) := fun h => hx (Prod.ext h.1 h.2)
    by_cases hp : x.1 = p
    · rw [if_pos hp, hp]
      constructor
      · rintro (h1 | h1)
        · exact .inl ⟨h1.1, by omega⟩
        · exact .inr h1.1
      · rintro (h1 | h1)
        · exact .inl ⟨h1.1, by omega⟩
        · exact .inr ⟨h1, hx⟩
    · rw [if_neg hp]
      constructor
      · rintro (h1 | h1)
        · exact .inl h1
        · exact .inr h1.1
      · rintro (h1 | h1)
        · exact .inl h1
        · exact .inr ⟨h1, hx⟩

theorem sorted_nodup {l : List Dot} (h : l.Pairwise lt) : l.Nodup := h.imp fun {a b} h e => by subst e; exact lt_irrefl _ h

theorem filter_ne_length {l : List Dot} {d : Dot} (h : l.Nodup) (hd : d ∈ l) : (l.filter fun x => decide (x ≠ d)).length + 1 = l.length := by
  induction l with
  | nil => cases hd
  | cons e l ih =>
    have k := List.nodup_cons.1 h
    by_cases he : e = d
    · subst he
      have : (l.filter fun x => decide (x ≠ e)) = l := List.filter_eq_self.2 fun x hx => by simp; rintro rfl; exact k.1 hx
      rw [List.filter_cons_of_neg (by simp), this]
      rfl
    · have hd2 : d ∈ l := by
        rcases List.mem_cons.1 hd with h1 | h1
        · exact absurd h1.symm he
        · exact h1
      rw [List.filter_cons_of_pos (by simpa using he), List.length_cons, ih k.2 hd2, List.length_cons]

theorem moved_length {p : Int} {s : S} (h : Semi p s) (hn : next p s ∈ s.extra) : (moved p s).extra.length + 1 = s.extra.length := filter_ne_length (sorted_nodup h.sorted) hn

/-- What a set comes to, on the way. -/
def done (p : Int) (s : S) : S := settle p s.extra.length s
theorem done_next {p : Int} {s : S} (h : Semi p s) (hn : next p s ∈ s.extra) : done p s = done p (moved p s) := by
  unfold done
  rw [← moved_length h hn, settle, if_pos hn]
theorem done_end {p : Int} {s : S} (hn : next p s ∉ s.extra) : done p s = s := by
  unfold done
  cases hl : s.extra.length with
  | zero => rfl
  | succ n => rw [settle, if_neg hn]

theorem done_ok {p : Int} : ∀ (n : Nat) (s : S), s.extra.length = n → Semi p s → Ok (done p s) ∧ ∀ x, Has (done p s) x ↔ Has s x := by
  intro n
  induction n with
  | zero =>
    intro s hl h
    have hn : next p s ∉ s.extra := by rw [List.length_eq_zero_iff.1 hl]; simp
    rw [done_end hn]
    exact ⟨h.ok hn, fun x => Iff.rfl⟩
  | succ n ih =>
    intro s hl h
    by_cases hn : next p s ∈ s.extra
    · rw [done_next h hn]
      obtain ⟨k1, k2⟩ := ih (moved p s) (by have := moved_length h hn; omega) (moved_semi h hn)
      exact ⟨k1, fun x => (k2 x).trans (moved_has h hn x)⟩
    · rw [done_end hn]
      exact ⟨h.ok hn, fun x => Iff.rfl⟩

/-- A set with a dot that is not there. -/
def plus (s : S) (d : Dot) : S := done d.1 ⟨s.base, ins d s.extra⟩

theorem plus_semi {s : S} {d : Dot} (h : Ok s) (hd : Good d) (hn : ¬ Has s d) : Semi d.1 ⟨s.base, ins d s.extra⟩ := by
  have hnb : ¬ (1 ≤ d.2 ∧ d.2 ≤ Vec.cnt s.base d.1) := fun h => hn (.inl h)
  unfold Good at hd
  refine ⟨h.vec, fun x hx => ?_, fun x hx => ?_, fun x hx hp => ?_, ins_sorted h.sorted fun h => hn (.inr h)⟩
  · rcases (mem_ins d x _).1 hx with rfl | hx
    · exact hd
    · exact h.good x hx
  · rcases (mem_ins d x _).1 hx with rfl | hx
    · simp only; omega
    · have := h.far x hx; simp only; omega
  · rcases (mem_ins d x _).1 hx with rfl | hx
    · exact absurd rfl hp
    · exact h.far x hx

theorem plus_ok {s : S} {d : Dot} (h : Ok s) (hd : Good d) (hn : ¬ Has s d) : Ok (plus s d) := (done_ok _ _ rfl (plus_semi h hd hn)).1
theorem plus_has {s : S} {d : Dot} (h : Ok s) (hd : Good d) (hn : ¬ Has s d) (x : Dot) : Has (plus s d) x ↔ x = d ∨ Has s x := by
  rw [plus, (done_ok _ _ rfl (plus_semi h hd hn)).2 x]
  unfold Has
  simp only [mem_ins]
  constructor
  · rintro (h | h | h)
    · exact .inr (.inl h)
    · exact .inl h
    · exact .inr (.inr h)
  · rintro (h | h | h)
    · exact .inr (.inl h)
    · exact .inl h
    · exact .inr (.inr h)

instance (d : Dot) : Decidable (Good d) := by unfold Good; infer_instance
/-- A set with a dot, and whether it was not there. -/
def add (s : S) (d : Dot) : S × Bool := if check s = 0 ∧ Good d ∧ ¬ Has s d then (plus s d, true) else (s, false)
end DS

end Go.Proofs.Ytdgjjlffdfpkcaa
