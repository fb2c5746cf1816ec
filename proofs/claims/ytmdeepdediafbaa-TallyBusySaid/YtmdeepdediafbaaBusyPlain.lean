/- The busy peers, in plain words: each peer once, in the order in which they stand, by two ways that come to the same. -/
import Derived.Test.YtmdeepdediafbaaCmp
namespace Go.Proofs.Ytmdeepdediafbaa

namespace Busy
/-- How two peers stand, by how often each is there. -/
def cf (ps : List Int) (a b : Int) : Int := if cmpI (ps.count b) (ps.count a) = 0 then cmpI a b else cmpI (ps.count b) (ps.count a)
/-- Does one stand ahead of another one? -/
def lt (ps : List Int) (a b : Int) : Bool := decide (cf ps a b < 0)

theorem cmpI_neg (x y : Int) : cmpI x y < 0 ↔ x < y := by unfold cmpI; split <;> first | omega | (split <;> omega)
theorem cmpI_zero (x y : Int) : cmpI x y = 0 ↔ x = y := by unfold cmpI; split <;> first | omega | (split <;> omega)

theorem lt_iff (ps : List Int) (a b : Int) : lt ps a b = true ↔ ps.count b < ps.count a ∨ (ps.count a = ps.count b ∧ a < b) := by
  unfold lt cf
  rw [decide_eq_true_iff]
  split
  · rename_i h; rw [cmpI_zero] at h; rw [cmpI_neg]; omega
  · rename_i h; rw [cmpI_zero] at h; rw [cmpI_neg]; omega

theorem lt_false (ps : List Int) (a b : Int) : lt ps a b = false ↔ ¬ (ps.count b < ps.count a ∨ (ps.count a = ps.count b ∧ a < b)) := by
  rw [← lt_iff, Bool.not_eq_true]

/-- The numbers of a list in the order of their first places. -/
def firsts (ps : List Int) : List Int := ps.foldl (fun out p => if p ∈ out then out else out ++ [p]) []
/-- A number put ahead of the first that it stands ahead of. -/
def ins (l : Int → Int → Bool) (p : Int) : List Int → List Int
  | [] => [p]
  | q :: r => if l p q then p :: q :: r else q :: ins l p r
/-- The numbers put in one by one. -/
def sorted (l : Int → Int → Bool) (ps : List Int) : List Int := ps.foldl (fun out p => if p ∈ out then out else ins l p out) []

theorem foldl_take {α β : Type} (f : β → α → β) (z : β) (l : List α) (k : Nat) (h : k < l.length) : (l.take (k + 1)).foldl f z = f ((l.take k).foldl f z) l[k] := by
  rw [List.take_add_one, List.getElem?_eq_getElem h, List.foldl_append]; rfl

theorem ins_perm (l : Int → Int → Bool) (p : Int) (q : List Int) : (ins l p q).Perm (p :: q) := by
  induction q with
  | nil => exact List.Perm.refl _
  | cons a r ih =>
    unfold ins
    split
    · exact List.Perm.refl _
    · exact (ih.cons a).trans (List.Perm.swap p a r)

theorem ins_sorted (ps : List Int) (p : Int) (q : List Int) (h : q.Pairwise fun a b => (!lt ps b a) = true) : (ins (lt ps) p q).Pairwise fun a b => (!lt ps b a) = true := by
  induction q with
  | nil => unfold ins; exact List.pairwise_singleton _ _
  | cons a r ih =>
    rw [List.pairwise_cons] at h
    unfold ins
    split
    · rename_i hl
      refine List.pairwise_cons.2 ⟨fun b hb => ?_, List.pairwise_cons.2 h⟩
      have hl' := (lt_iff ps p a).1 hl
      rcases List.mem_cons.1 hb with rfl | hb
      · rw [Bool.not_eq_true', lt_false]; omega
      · have h1 := h.1 b hb
        rw [Bool.not_eq_true', lt_false] at h1 ⊢
        omega
    · rename_i hl
      rw [Bool.not_eq_true, lt_false] at hl
      refine List.pairwise_cons.2 ⟨fun b hb => ?_, ih h.2⟩
      rcases List.mem_cons.1 ((ins_perm _ p r).mem_iff.1 hb) with rfl | hb
      · rw [Bool.not_eq_true', lt_false]; exact hl
      · exact h.1 b hb

theorem both_aux (ps : List Int) (qs : List Int) (a b : List Int) (hp : a.Perm b) (hs : b.Pairwise fun x y => (!lt ps y x) = true) :
    (qs.foldl (fun out p => if p ∈ out then out else out ++ [p]) a).Perm (qs.foldl (fun out p => if p ∈ out then out else ins (lt ps) p out) b) ∧
    (qs.foldl (fun out p => if p ∈ out then out else ins (lt ps) p out) b).Pairwise fun x y => (!lt ps y x) = true := by
  induction qs generalizing a b with
  | nil => exact ⟨hp, hs⟩
  | cons q qs ih =>
    simp only [List.foldl_cons]
    by_cases h : q ∈ a
    · rw [if_pos h, if_pos (hp.mem_iff.1 h)]; exact ih a b hp hs
    · rw [if_neg h, if_neg (fun h' => h (hp.mem_iff.2 h'))]
      refine ih _ _ ?_ (ins_sorted ps q b hs)
      exact ((List.perm_append_comm (l₁ := a) (l₂ := [q])).trans (hp.cons q)).trans (ins_perm _ q b).symm

/-- Both ways come to the same. -/
theorem same (ps qs : List Int) : (firsts qs).mergeSort (fun x y => !lt ps y x) = sorted (lt ps) qs := by
  obtain ⟨hp, hs⟩ := both_aux ps qs [] [] (List.Perm.refl _) List.Pairwise.nil
  have hs2 : (((firsts qs).mergeSort fun x y => !lt ps y x)).Pairwise fun x y => (!lt ps y x) = true :=
    List.pairwise_mergeSort (fun a b c h1 h2 => by rw [Bool.not_eq_true', lt_false] at *; omega) (fun a b => by
      rw [Bool.or_eq_true, Bool.not_eq_true', Bool.not_eq_true', lt_false, lt_false]; omega) (firsts qs)
  refine List.Perm.eq_of_pairwise (le := fun x y => (!lt ps y x) = true) (fun a b _ _ h1 h2 => ?_) hs2 hs ((List.mergeSort_perm _ _).trans hp)
  rw [Bool.not_eq_true', lt_false] at h1 h2
  omega

theorem firsts_next (ps : List Int) (k : Nat) (h : k < ps.length) : firsts (ps.take (k + 1)) = if ps[k] ∈ firsts (ps.take k) then firsts (ps.take k) else firsts (ps.take k) ++ [ps[k]] := foldl_take _ _ _ _ h
theorem sorted_next (l : Int → Int → Bool) (ps : List Int) (k : Nat) (h : k < ps.length) : sorted l (ps.take (k + 1)) = if ps[k] ∈ sorted l (ps.take k) then sorted l (ps.take k) else ins l ps[k] (sorted l (ps.take k)) := foldl_take _ _ _ _ h

theorem mem_aux (ps a : List Int) (x : Int) : x ∈ ps.foldl (fun out p => if p ∈ out then out else out ++ [p]) a ↔ x ∈ a ∨ x ∈ ps := by
  induction ps generalizing a with
  | nil => simp
  | cons p ps ih =>
    simp only [List.foldl_cons]
    rw [ih]
    split
    · rename_i h
      rw [List.mem_cons]
      refine ⟨fun h' => h'.imp id .inr, fun h' => ?_⟩
      rcases h' with h' | rfl | h'
      · exact .inl h'
      · exact .inl h
      · exact .inr h'
    · rw [List.mem_append, List.mem_singleton, List.mem_cons, or_assoc]
theorem mem_firsts (ps : List Int) (x : Int) : x ∈ firsts ps ↔ x ∈ ps := by unfold firsts; rw [mem_aux]; simp

theorem length_aux (ps a : List Int) : (ps.foldl (fun out p => if p ∈ out then out else out ++ [p]) a).length ≤ a.length + ps.length := by
  induction ps generalizing a with
  | nil => simp
  | cons p ps ih =>
    simp only [List.foldl_cons, List.length_cons]
    refine Nat.le_trans (ih _) ?_
    split
    · omega
    · rw [List.length_append, List.length_singleton]; omega
theorem firsts_length (ps : List Int) : (firsts ps).length ≤ ps.length := by have := length_aux ps []; simpa [firsts] using this
theorem sorted_length (ps qs : List Int) : (sorted (lt ps) qs).length ≤ qs.length := by
  rw [← same, (List.mergeSort_perm _ _).length_eq]; exact firsts_length qs

/-- Of one that is there already nothing is put in. -/
theorem ins_start (l : Int → Int → Bool) (p : Int) (out : List Int) : ins l p out = [] ++ ins l p (out.drop 0) := rfl
theorem ins_step (l : Int → Int → Bool) (p : Int) (out pre : List Int) (k : Nat) (h : k < out.length) (hi : ins l p out = pre ++ ins l p (out.drop k)) :
    ins l p out = if l p out[k] then pre ++ [p, out[k]] ++ out.drop (k + 1) else pre ++ [out[k]] ++ ins l p (out.drop (k + 1)) := by
  rw [hi, List.drop_eq_getElem_cons h]
  conv => lhs; rw [ins]
  split <;> simp
theorem ins_end (l : Int → Int → Bool) (p : Int) (out pre : List Int) (hi : ins l p out = pre ++ ins l p (out.drop out.length)) : ins l p out = pre ++ [p] := by
  rw [hi, List.drop_length, ins]
end Busy

end Go.Proofs.Ytmdeepdediafbaa
