/- How far peers are from one: a breadth-first walk finds the least numbers of edges. -/
import Derived.WalkKit
namespace Go.Proofs.Ytcnjklbmlplehaa

namespace GR
section
variable (n : Nat) (adj : Nat → Nat → Bool) (p : Nat)

/-- Those that are of so many edges at the most. -/
def ball : Nat → Nat → Bool
  | 0, v => v == p
  | k + 1, v => ball k v || (List.range n).any fun u => ball k u && adj u v

/-- The least number of edges. -/
def Dist (v d : Nat) : Prop := ball n adj p d v = true ∧ ∀ k, k < d → ball n adj p k v = false
end

variable {n : Nat} {adj : Nat → Nat → Bool} {p : Nat}

/-- A graph: edges are of peers that there are, and go both ways. -/
structure Gr (n : Nat) (adj : Nat → Nat → Bool) : Prop where
  lt : ∀ u v, adj u v = true → u < n ∧ v < n
  symm : ∀ u v, adj u v = adj v u

theorem ball_step (k v : Nat) : ball n adj p (k + 1) v = (ball n adj p k v || (List.range n).any fun u => ball n adj p k u && adj u v) := rfl
theorem ball_succ {k v : Nat} (hg : Gr n adj) : ball n adj p (k + 1) v = true ↔ ball n adj p k v = true ∨ ∃ u, ball n adj p k u = true ∧ adj u v = true := by
  rw [ball_step, Bool.or_eq_true, List.any_eq_true]
  constructor
  · rintro (h | ⟨u, _, h⟩)
    · exact .inl h
    · rw [Bool.and_eq_true] at h
      exact .inr ⟨u, h⟩
  · rintro (h | ⟨u, h1, h2⟩)
    · exact .inl h
    · exact .inr ⟨u, List.mem_range.2 (hg.lt u v h2).1, by rw [Bool.and_eq_true]; exact ⟨h1, h2⟩⟩
theorem ball_mono {k m v : Nat} (h : k ≤ m) (hb : ball n adj p k v = true) : ball n adj p m v = true := by
  induction m with
  | zero => obtain rfl : k = 0 := by omega
            exact hb
  | succ m ih =>
    by_cases hk : k = m + 1
    · subst hk; exact hb
    · rw [ball_step, ih (by omega)]; rfl
theorem ball_lt (hg : Gr n adj) (hp : p < n) {k v : Nat} (hb : ball n adj p k v = true) : v < n := by
  induction k generalizing v with
  | zero => unfold ball at hb; have : v = p := by simpa using hb
            omega
  | succ k ih =>
    rcases (ball_succ hg).1 hb with h | ⟨u, _, h⟩
    · exact ih h
    · exact (hg.lt u v h).2
theorem dist_uniq {v d e : Nat} (h : Dist n adj p v d) (k : Dist n adj p v e) : d = e := by
  rcases Nat.lt_trichotomy d e with h1 | h1 | h1
  · have := k.2 d h1; rw [h.1] at this; cases this
  · exact h1
  · have := h.2 e h1; rw [k.1] at this; cases this
theorem dist_of_ball {v k : Nat} (h : ball n adj p k v = true) : ∃ d, d ≤ k ∧ Dist n adj p v d := by
  induction k with
  | zero => exact ⟨0, Nat.le_refl _, h, fun j hj => absurd hj (Nat.not_lt_zero _)⟩
  | succ k ih =>
    by_cases hk : ball n adj p k v = true
    · obtain ⟨d, h1, h2⟩ := ih hk
      exact ⟨d, by omega, h2⟩
    · refine ⟨k + 1, Nat.le_refl _, h, fun j hj => ?_⟩
      cases hj2 : ball n adj p j v with
      | false => rfl
      | true => exact absurd (ball_mono (by omega) hj2) hk

theorem countP_lt {l : List Nat} {f g : Nat → Bool} (h : ∀ x, f x = true → g x = true) {y : Nat} (hy : y ∈ l) (h1 : f y = false) (h2 : g y = true) : l.countP f + 1 ≤ l.countP g := by
  induction l with
  | nil => cases hy
  | cons a l ih =>
    have hle : l.countP f ≤ l.countP g := List.countP_mono_left fun x _ => h x
    rw [List.countP_cons, List.countP_cons]
    rcases List.mem_cons.1 hy with rfl | hy
    · rw [h1, h2]; simp; omega
    · have := ih hy
      by_cases ha : f a = true
      · rw [ha, h a ha]; simp; omega
      · rw [if_neg ha]; split <;> omega
/-- Where nobody comes in a round, nobody comes any more. -/
theorem stable {k : Nat} (hs : ∀ v, ball n adj p (k + 1) v = ball n adj p k v) (m : Nat) (v : Nat) : ball n adj p (k + m) v = ball n adj p k v := by
  induction m generalizing v with
  | zero => rfl
  | succ m ih =>
    rw [← hs v, show k + (m + 1) = (k + m) + 1 by omega]
    rw [ball_step, ball_step]
    have e : (fun u => ball n adj p (k + m) u && adj u v) = fun u => ball n adj p k u && adj u v := funext fun u => by rw [ih]
    rw [ih, e]
/-- A way is of less edges than there are peers. -/
theorem dist_lt (hg : Gr n adj) (hp : p < n) {v d : Nat} (h : Dist n adj p v d) : d < n := by
  have hc : ∀ k, k ≤ d → k + 1 ≤ (List.range n).countP (ball n adj p k) := by
    intro k
    induction k with
    | zero =>
      intro _
      have : (List.range n).countP (fun _ => false) + 1 ≤ (List.range n).countP (ball n adj p 0) := countP_lt (fun x h => by cases h) (List.mem_range.2 hp) rfl (by unfold ball; simp)
      omega
    | succ k ih =>
      intro hk
      have h1 := ih (by omega)
      apply Classical.byContradiction
      intro hno
      have hall : ∀ x, ball n adj p (k + 1) x = ball n adj p k x := by
        intro x
        cases h2 : ball n adj p k x with
        | true => exact ball_mono (by omega) h2
        | false =>
          cases h3 : ball n adj p (k + 1) x with
          | false => rfl
          | true =>
            have := countP_lt (l := List.range n) (f := ball n adj p k) (g := ball n adj p (k + 1)) (fun y hy => ball_mono (by omega) hy) (List.mem_range.2 (ball_lt hg hp h3)) h2 h3
            omega
      have hst := stable hall (d - k) v
      rw [show k + (d - k) = d by omega, h.1, h.2 k (by omega)] at hst
      cases hst
  have h1 := hc d (Nat.le_refl _)
  have h2 : (List.range n).countP (ball n adj p d) ≤ (List.range n).length := List.countP_le_length
  rw [List.length_range] at h2
  omega

/-- The other way round. -/
theorem ball_front (hg : Gr n adj) {k q v : Nat} (h : adj q p = true) (hb : ball n adj p k v = true) : ball n adj q (k + 1) v = true := by
  induction k generalizing v with
  | zero =>
    have hv : v = p := by unfold ball at hb; simpa using hb
    subst hv
    refine (ball_succ hg).2 (.inr ⟨q, by unfold ball; simp, h⟩)
  | succ k ih =>
    rcases (ball_succ hg).1 hb with h1 | ⟨u, h1, h2⟩
    · exact ball_mono (by omega) (ih h1)
    · exact (ball_succ hg).2 (.inr ⟨u, ih h1, h2⟩)
theorem ball_symm (hg : Gr n adj) {k v : Nat} (hb : ball n adj p k v = true) : ball n adj v k p = true := by
  induction k generalizing v with
  | zero =>
    have hv : v = p := by unfold ball at hb; simpa using hb
    subst hv
    unfold ball
    simp
  | succ k ih =>
    rcases (ball_succ hg).1 hb with h1 | ⟨u, h1, h2⟩
    · exact ball_mono (by omega) (ih h1)
    · rw [hg.symm] at h2
      exact ball_front hg h2 (ih h1)
theorem dist_symm (hg : Gr n adj) {v d : Nat} (h : Dist n adj p v d) : Dist n adj v p d := by
  refine ⟨ball_symm hg h.1, fun k hk => ?_⟩
  cases h2 : ball n adj v k p with
  | false => rfl
  | true => have := h.2 k hk; rw [ball_symm hg h2] at this; cases this

/-- What a peer's neighbours are. -/
def near (n : Nat) (adj : Nat → Nat → Bool) (h : Nat) : List Nat := (List.range n).filter (adj h)
theorem mem_near (hg : Gr n adj) {h v : Nat} : v ∈ near n adj h ↔ adj h v = true := by
  unfold near
  rw [List.mem_filter, List.mem_range]
  exact ⟨fun h => h.2, fun h => ⟨(hg.lt _ _ h).2, h⟩⟩

/-- How far: -1: not yet. -/
def at_ (far : List Int) (v : Nat) : Int := far.getD v (-1)
theorem at_set {far : List Int} {q : Nat} (hq : q < far.length) (x : Int) (v : Nat) : at_ (far.set q x) v = if v = q then x else at_ far v := by
  unfold at_
  simp only [List.getD_eq_getElem?_getD, List.getElem?_set]
  by_cases h : q = v
  · subst h; simp [hq]
  · rw [if_neg h, if_neg (fun e => h e.symm)]

/-- A walk on its way: what is known, who is still to be asked, and how many of the first one's neighbours were. -/
structure Inv (n : Nat) (adj : Nat → Nat → Bool) (p : Nat) (far : List Int) (queue : List Nat) (done : Nat) : Prop where
  len : far.length = n
  in_ : ∀ q ∈ queue, q < n
  root : at_ far p = 0
  val : ∀ v, 0 ≤ at_ far v → Dist n adj p v (at_ far v).toNat
  neg : ∀ v, at_ far v < 0 → at_ far v = -1
  seen : ∀ q ∈ queue, 0 ≤ at_ far q
  sorted : queue.Pairwise fun a b => at_ far a ≤ at_ far b
  close : ∀ a ∈ queue, ∀ b ∈ queue, at_ far b ≤ at_ far a + 1
  fin : ∀ v, 0 ≤ at_ far v → v ∉ queue → ∀ u, adj v u = true → 0 ≤ at_ far u
  part : ∀ h rest, queue = h :: rest → ∀ i (hi : i < (near n adj h).length), i < done → 0 ≤ at_ far (near n adj h)[i]
  count : queue.length + far.countP (· < 0) ≤ n

theorem Inv.start (hp : p < n) : Inv n adj p ((List.replicate n (-1)).set p 0) [p] 0 := by
  have hl : p < (List.replicate n (-1 : Int)).length := by simpa using hp
  have ha : ∀ v, at_ ((List.replicate n (-1 : Int)).set p 0) v = if v = p then 0 else -1 := by
    intro v
    rw [at_set hl]
    by_cases h : v = p
    · rw [if_pos h, if_pos h]
    · rw [if_neg h, if_neg h]
      unfold at_
      rw [List.getD_eq_getElem?_getD, List.getElem?_replicate]
      split <;> rfl
  refine ⟨by simp, by simpa using hp, by rw [ha, if_pos rfl], fun v hv => ?_, fun v hv => ?_, fun q hq => ?_, List.pairwise_singleton _ _, fun a h1 b h2 => ?_, fun v hv hq => ?_, fun _ _ _ _ _ h => absurd h (Nat.not_lt_zero _), ?_⟩
  · rw [ha] at hv ⊢
    by_cases h : v = p
    · subst h
      rw [if_pos rfl]
      exact ⟨by unfold ball; simp, fun k hk => absurd hk (Nat.not_lt_zero _)⟩
    · rw [if_neg h] at hv; omega
  · rw [ha] at hv ⊢
    by_cases h : v = p
    · rw [if_pos h] at hv; omega
    · rw [if_neg h]
  · rw [List.mem_singleton] at hq
    rw [ha, if_pos hq]
    omega
  · rw [List.mem_singleton] at h1 h2
    rw [h1, h2]; omega
  · rw [ha] at hv
    by_cases h : v = p
    · exact absurd (List.mem_singleton.2 h) hq
    · rw [if_neg h] at hv; omega
  · have h1 : ((List.replicate n (-1 : Int)).set p 0).countP (· < 0) + 1 ≤ n := by
      have h2 : ∀ (m p : Nat), p < m → ((List.replicate m (-1 : Int)).set p 0).countP (· < 0) + 1 ≤ m := by
        intro m
        induction m with
        | zero => intro p h; omega
        | succ m ih =>
          intro p h
          cases p with
          | zero =>
            rw [List.replicate_succ, List.set_cons_zero, List.countP_cons_of_neg (by simp)]
            have : (List.replicate m (-1 : Int)).countP (· < 0) ≤ (List.replicate m (-1 : Int)).length := List.countP_le_length
            rw [List.length_replicate] at this
            omega
          | succ p =>
            rw [List.replicate_succ, List.set_cons_succ, List.countP_cons_of_pos (by simp)]
            have := ih p (by omega)
            omega
      exact h2 n p hp
    simpa [Nat.add_comm] using h1

theorem countP_set {far : List Int} {q : Nat} (hq : q < far.length) (h : at_ far q < 0) {x : Int} (hx : 0 ≤ x) : (far.set q x).countP (· < 0) + 1 = far.countP (· < 0) := by
  induction far generalizing q with
  | nil => simp at hq
  | cons a l ih =>
    cases q with
    | zero =>
      have ha : a < 0 := h
      rw [List.set_cons_zero, List.countP_cons_of_neg (by simpa using hx), List.countP_cons_of_pos (by simpa using ha)]
    | succ q =>
      have := ih (q := q) (by simpa using hq) h
      rw [List.set_cons_succ, List.countP_cons, List.countP_cons]
      omega

/-- Whoever is no further than the first one is known. -/
theorem Inv.known (hg : Gr n adj) {far : List Int} {h : Nat} {rest : List Nat} {done : Nat} (I : Inv n adj p far (h :: rest) done) : ∀ (k : Nat) (v : Nat), (k : Int) ≤ at_ far h → ball n adj p k v = true → 0 ≤ at_ far v := by
  intro k
  induction k with
  | zero =>
    intro v _ hb
    have hv : v = p := by unfold ball at hb; simpa using hb
    rw [hv, I.root]
    omega
  | succ k ih =>
    intro v hk hb
    rcases (ball_succ hg).1 hb with h1 | ⟨u, h1, h2⟩
    · exact ih v (by omega) h1
    · have hu := ih u (by omega) h1
      have hd := I.val u hu
      have hle : (at_ far u).toNat ≤ k := by
        apply Classical.byContradiction
        intro hno
        have := hd.2 k (by omega)
        rw [h1] at this
        cases this
      refine I.fin u hu (fun hm => ?_) v h2
      rcases List.mem_cons.1 hm with rfl | hm
      · omega
      · have := (List.pairwise_cons.1 I.sorted).1 u hm
        omega

/-- A neighbour that was known. -/
theorem Inv.old {far : List Int} {h : Nat} {rest : List Nat} {done : Nat} (I : Inv n adj p far (h :: rest) done) (hd : done < (near n adj h).length) (hq : 0 ≤ at_ far (near n adj h)[done]) : Inv n adj p far (h :: rest) (done + 1) := by
  refine ⟨I.len, I.in_, I.root, I.val, I.neg, I.seen, I.sorted, I.close, I.fin, fun g r e i hi hlt => ?_, I.count⟩
  injection e with e1 e2
  subst e1
  by_cases hid : i = done
  · subst hid; exact hq
  · exact I.part _ _ rfl i hi (by omega)

/-- A neighbour that is new. -/
theorem Inv.new (hg : Gr n adj) {far : List Int} {h : Nat} {rest : List Nat} {done : Nat} (I : Inv n adj p far (h :: rest) done) (hd : done < (near n adj h).length) (hq : at_ far (near n adj h)[done] < 0) :
    Inv n adj p (far.set (near n adj h)[done] (at_ far h + 1)) (h :: rest ++ [(near n adj h)[done]]) (done + 1) := by
  have hadj : adj h (near n adj h)[done] = true := (mem_near hg).1 (List.getElem_mem hd)
  have hpart := I.part h rest rfl
  generalize hqe : (near n adj h)[done] = q at *
  have hqn : q < n := (hg.lt _ _ hadj).2
  have hql : q < far.length := by rw [I.len]; exact hqn
  have hh := I.seen h (List.mem_cons_self ..)
  have ha : ∀ v, at_ (far.set q (at_ far h + 1)) v = if v = q then at_ far h + 1 else at_ far v := fun v => at_set hql _ v
  have hne : ∀ v, 0 ≤ at_ far v → at_ (far.set q (at_ far h + 1)) v = at_ far v := fun v hv => by
    rw [ha, if_neg]
    rintro rfl
    omega
  have haq : at_ (far.set q (at_ far h + 1)) q = at_ far h + 1 := by rw [ha, if_pos rfl]
  have hge : ∀ v, 0 ≤ at_ far v → 0 ≤ at_ (far.set q (at_ far h + 1)) v := fun v hv => by rw [hne v hv]; exact hv
  have hsrt := List.pairwise_cons.1 I.sorted
  have hmin : ∀ a ∈ h :: rest, at_ far h ≤ at_ far a := fun a hm => by
    rcases List.mem_cons.1 hm with rfl | hm
    · omega
    · exact hsrt.1 a hm
  have hqd : Dist n adj p q (at_ far h + 1).toNat := by
    have hdh := I.val h hh
    have e : (at_ far h + 1).toNat = (at_ far h).toNat + 1 := by omega
    rw [e]
    refine ⟨(ball_succ hg).2 (.inr ⟨h, hdh.1, hadj⟩), fun k hk => ?_⟩
    cases hb : ball n adj p k q with
    | false => rfl
    | true => have := I.known hg k q (by omega) hb; omega
  refine ⟨by rw [List.length_set]; exact I.len, fun x hx => ?_, by rw [hne p (by rw [I.root]; omega)]; exact I.root, fun v hv => ?_, fun v hv => ?_, fun x hx => ?_, ?_, fun a h1 b h2 => ?_, fun v hv hnq u hu => ?_, fun g r e i hi hlt => ?_, ?_⟩
  · rcases List.mem_append.1 hx with hx | hx
    · exact I.in_ x hx
    · rw [List.mem_singleton] at hx; omega
  · rw [ha] at hv ⊢
    by_cases hv2 : v = q
    · rw [if_pos hv2, hv2]; exact hqd
    · rw [if_neg hv2] at hv ⊢; exact I.val v hv
  · rw [ha] at hv ⊢
    by_cases hv2 : v = q
    · rw [if_pos hv2] at hv; omega
    · rw [if_neg hv2] at hv ⊢; exact I.neg v hv
  · rcases List.mem_append.1 hx with hx | hx
    · exact hge x (I.seen x hx)
    · rw [List.mem_singleton] at hx; rw [hx, haq]; omega
  · rw [List.pairwise_append]
    refine ⟨?_, List.pairwise_singleton _ _, fun a h1 b h2 => ?_⟩
    · refine I.sorted.imp_of_mem fun {a b} h1 h2 hab => ?_
      rw [hne a (I.seen a h1), hne b (I.seen b h2)]
      exact hab
    · rw [List.mem_singleton] at h2
      rw [h2, haq, hne a (I.seen a h1)]
      exact I.close h (List.mem_cons_self ..) a h1
  · have hcl := I.close
    rcases List.mem_append.1 h1 with h1 | h1 <;> rcases List.mem_append.1 h2 with h2 | h2
    · rw [hne a (I.seen a h1), hne b (I.seen b h2)]; exact hcl a h1 b h2
    · rw [List.mem_singleton] at h2
      rw [h2, haq, hne a (I.seen a h1)]
      have := hmin a h1
      omega
    · rw [List.mem_singleton] at h1
      rw [h1, haq, hne b (I.seen b h2)]
      have := hcl h (List.mem_cons_self ..) b h2
      omega
    · rw [List.mem_singleton] at h1 h2
      rw [h1, h2]; omega
  · have hvq : v ≠ q := by rintro rfl; exact hnq (by simp)
    rw [ha, if_neg hvq] at hv
    exact hge u (I.fin v hv (fun hm => hnq (List.mem_append_left _ hm)) u hu)
  · rw [List.cons_append] at e
    injection e with e1 e2
    subst e1
    by_cases hid : i = done
    · subst hid; rw [hqe, haq]; omega
    · exact hge _ (hpart i hi (by omega))
  · have h1 := I.count
    have h2 := countP_set hql hq (x := at_ far h + 1) (by omega)
    simp only [List.length_append, List.length_cons, List.length_nil] at h1 ⊢
    omega

/-- The first one's neighbours were all asked. -/
theorem Inv.pop (hg : Gr n adj) {far : List Int} {h : Nat} {rest : List Nat} (I : Inv n adj p far (h :: rest) (near n adj h).length) : Inv n adj p far rest 0 := by
  refine ⟨I.len, fun q hq => I.in_ q (List.mem_cons_of_mem _ hq), I.root, I.val, I.neg, fun q hq => I.seen q (List.mem_cons_of_mem _ hq), (List.pairwise_cons.1 I.sorted).2, fun a h1 b h2 => I.close a (List.mem_cons_of_mem _ h1) b (List.mem_cons_of_mem _ h2), fun v hv hq u hu => ?_, fun _ _ _ _ _ h => absurd h (Nat.not_lt_zero _), ?_⟩
  · by_cases hvh : v = h
    · subst hvh
      obtain ⟨i, hi, he⟩ := List.getElem_of_mem ((mem_near hg).2 hu)
      have := I.part v rest rfl i hi hi
      rw [he] at this
      exact this
    · exact I.fin v hv (fun hm => (List.mem_cons.1 hm).elim hvh hq) u hu
  · have := I.count
    rw [List.length_cons] at this
    omega

/-- What a walk finds. -/
def Ways (n : Nat) (adj : Nat → Nat → Bool) (p : Nat) (far : List Int) : Prop :=
  far.length = n ∧ ∀ v, v < n → (at_ far v = -1 ∧ ∀ k, ball n adj p k v = false) ∨ (∃ d : Nat, at_ far v = d ∧ Dist n adj p v d)
theorem Inv.done_ (hg : Gr n adj) {far : List Int} (I : Inv n adj p far [] 0) : Ways n adj p far := by
  refine ⟨I.len, fun v _ => ?_⟩
  have hk : ∀ (k : Nat) (v : Nat), ball n adj p k v = true → 0 ≤ at_ far v := by
    intro k
    induction k with
    | zero =>
      intro v hb
      have hv : v = p := by unfold ball at hb; simpa using hb
      rw [hv, I.root]; omega
    | succ k ih =>
      intro v hb
      rcases (ball_succ hg).1 hb with h1 | ⟨u, h1, h2⟩
      · exact ih v h1
      · exact I.fin u (ih u h1) (by simp) v h2
  by_cases hv : 0 ≤ at_ far v
  · exact .inr ⟨_, (Int.toNat_of_nonneg hv).symm, I.val v hv⟩
  · refine .inl ⟨I.neg v (by omega), fun k => ?_⟩
    cases hb : ball n adj p k v with
    | false => rfl
    | true => exact absurd (hk k v hb) hv

/-- How far, as a number: -1: there is no way. -/
def dz (n : Nat) (adj : Nat → Nat → Bool) (p v : Nat) : Int := match (List.range (n + 1)).find? fun k => ball n adj p k v with
  | some k => k
  | none => -1
theorem find_range {f : Nat → Bool} {m d : Nat} (hd : d < m) (h : f d = true) (hk : ∀ k, k < d → f k = false) : (List.range m).find? f = some d := by
  rw [List.find?_eq_some_iff_getElem]
  refine ⟨h, d, by simpa using hd, by simp, fun j hj => ?_⟩
  rw [List.getElem_range, hk j hj]
  rfl
theorem dz_some (hg : Gr n adj) (hp : p < n) {v d : Nat} (h : Dist n adj p v d) : dz n adj p v = d := by
  have := dist_lt hg hp h
  unfold dz
  rw [find_range (f := fun k => ball n adj p k v) (show d < n + 1 by omega) h.1 h.2]
theorem dz_none {v : Nat} (h : ∀ k, ball n adj p k v = false) : dz n adj p v = -1 := by
  unfold dz
  rw [List.find?_eq_none.2 fun k _ => by rw [h k]; exact Bool.false_ne_true]
theorem dz_cases (hg : Gr n adj) (hp : p < n) (v : Nat) : (dz n adj p v = -1 ∧ ∀ k, ball n adj p k v = false) ∨ ∃ d : Nat, dz n adj p v = d ∧ Dist n adj p v d ∧ d < n := by
  by_cases h : ∀ k, ball n adj p k v = false
  · exact .inl ⟨dz_none h, h⟩
  · obtain ⟨k, hk⟩ := Classical.not_forall.1 h
    obtain ⟨d, _, hd⟩ := dist_of_ball (by simpa using hk)
    exact .inr ⟨d, dz_some hg hp hd, hd, dist_lt hg hp hd⟩
/-- The walk's list. -/
theorem Ways.eq (hg : Gr n adj) (hp : p < n) {far : List Int} (h : Ways n adj p far) : far = (List.range n).map (dz n adj p) := by
  refine List.ext_getElem (by simp [h.1]) fun i h1 h2 => ?_
  rw [List.getElem_map, List.getElem_range]
  have hi : i < n := by rw [← h.1]; exact h1
  have ha : at_ far i = far[i] := by unfold at_; rw [List.getD_eq_getElem?_getD, List.getElem?_eq_getElem h1]; rfl
  rcases h.2 i hi with ⟨k1, k2⟩ | ⟨d, k1, k2⟩
  · rw [← ha, k1, dz_none k2]
  · rw [← ha, k1, dz_some hg hp k2]
theorem dz_symm (hg : Gr n adj) {q : Nat} (hp : p < n) (hq : q < n) : dz n adj p q = dz n adj q p := by
  rcases dz_cases hg hp q with ⟨h1, h2⟩ | ⟨d, h1, h2, _⟩
  · rw [h1, dz_none fun k => ?_]
    cases hb : ball n adj q k p with
    | false => rfl
    | true => have := h2 k; rw [ball_symm hg hb] at this; cases this
  · rw [h1, dz_some hg hq (dist_symm hg h2)]
end GR

end Go.Proofs.Ytcnjklbmlplehaa
