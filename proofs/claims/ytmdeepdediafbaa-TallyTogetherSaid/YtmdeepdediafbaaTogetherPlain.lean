/- Two lists of events, one behind the other, come to both tallies together. -/
import Derived.Test.YtmdeepdediafbaaEvAppend
namespace Go.Proofs.Ytmdeepdediafbaa

theorem countAll_app (a b : List Ev) (j : Nat) (hj : j < 44) : countAll (a ++ b) j = countAll a j + countAll b j := by
  rcases (show j = 0 ∨ (1 ≤ j ∧ j < 14) ∨ (14 ≤ j ∧ j < 27) ∨ (27 ≤ j ∧ j < 44) by omega) with rfl | ⟨h1, h2⟩ | ⟨h1, h2⟩ | ⟨h1, h2⟩
  · rw [count_all, count_all, count_all, List.length_append]; omega
  · obtain ⟨k, rfl⟩ : ∃ k, j = 1 + k := ⟨j - 1, by omega⟩
    rw [count_kind _ k (by omega), count_kind _ k (by omega), count_kind _ k (by omega)]
    unfold cntOf; rw [List.countP_append]; omega
  · obtain ⟨k, rfl⟩ : ∃ k, j = 14 + k := ⟨j - 14, by omega⟩
    rw [count_well _ k (by omega), count_well _ k (by omega), count_well _ k (by omega)]
    unfold cntOf; rw [List.countP_append]; omega
  · obtain ⟨k, rfl⟩ : ∃ k, j = 27 + k := ⟨j - 27, by omega⟩
    rw [count_err _ k (by omega), count_err _ k (by omega), count_err _ k (by omega)]
    unfold cntOf; rw [List.countP_append]; omega

theorem sameT_of {x y : Nat → Int} {G H : List Dot} (h : ∀ j, j < 44 → x j = y j) (hG : G = H) : sameT x G y H = true := by
  have e : ∀ o n, o + n ≤ 44 → eqRows (fun j => x (o + j)) (fun j => y (o + j)) n = true := fun o n hon => eqRows_true.2 fun j hj => h (o + j) (by omega)
  unfold sameT
  rw [e 1 13 (by omega), e 14 13 (by omega), e 27 17 (by omega), h 0 (by omega), hG]
  simp

open Vec in
theorem ok_one {d : Dot} (h : dotE d = 0) : Ok [d] := check_ok.1 (by rw [check_one]; exact h)

open Vec in
theorem give_ok (e : Ev) {G : List Dot} (h : Ok G) : Ok (give e G) := by
  unfold give
  split
  · exact joinL_ok _ _
  · exact h

open Vec in
theorem give_cnt (e : Ev) {G : List Dot} (h : Ok G) (p : Int) : cnt (give e G) p = max (cnt G p) (cnt (give e []) p) := by
  unfold give
  split
  · rename_i hc
    have h1 := ok_one hc.2
    rw [joinL_cnt h h1, joinL_cnt Ok.nil h1]
    have := cnt_nonneg h1 p
    simp only [cnt] at this ⊢
    omega
  · have := cnt_nonneg h p
    simp only [cnt]
    omega

open Vec in
theorem foldl_give_ok (l : List Ev) : ∀ {G : List Dot}, Ok G → Ok (l.foldl (fun G e => give e G) G) := by
  induction l with
  | nil => intro G h; exact h
  | cons e l ih => intro G h; exact ih (give_ok e h)

open Vec in
theorem foldl_give_cnt (l : List Ev) : ∀ {G : List Dot}, Ok G → ∀ p, cnt (l.foldl (fun G e => give e G) G) p = max (cnt G p) (cnt (giveAll l) p) := by
  induction l with
  | nil =>
    intro G h p
    have := cnt_nonneg h p
    show cnt G p = max (cnt G p) 0
    omega
  | cons e l ih =>
    intro G h p
    have h1 := ih (give_ok e h) p
    have h2 := ih (give_ok e Ok.nil) p
    rw [List.foldl_cons, h1, give_cnt e h]
    have : giveAll (e :: l) = l.foldl (fun G e => give e G) (give e []) := rfl
    rw [this, h2]
    omega

theorem giveAll_ok (l : List Ev) : Vec.Ok (giveAll l) := foldl_give_ok l Vec.Ok.nil

open Vec in
theorem giveAll_app (a b : List Ev) : giveAll (a ++ b) = joinL (giveAll a) (giveAll b) := by
  refine ok_ext (giveAll_ok _) (joinL_ok _ _) fun p => ?_
  rw [joinL_cnt (giveAll_ok a) (giveAll_ok b)]
  have : giveAll (a ++ b) = b.foldl (fun G e => give e G) (giveAll a) := by unfold giveAll; rw [List.foldl_append]
  rw [this, foldl_give_cnt b (giveAll_ok a)]

open Vec in
theorem joinL_comm {G H : List Dot} (hG : Ok G) (hH : Ok H) : joinL G H = joinL H G :=
  ok_ext (joinL_ok _ _) (joinL_ok _ _) fun p => by rw [joinL_cnt hG hH, joinL_cnt hH hG]; omega

open Vec in
theorem joinL_nil {G : List Dot} (hG : Ok G) : joinL G [] = G :=
  ok_ext (joinL_ok _ _) hG fun p => by
    rw [joinL_cnt hG Ok.nil]
    have := cnt_nonneg hG p
    simp only [cnt]
    omega

/-- Both tallies together, either first. -/
theorem same_both (a b : List Ev) : sameT (countAll (a ++ b)) (giveAll (a ++ b)) (fun j => countAll a j + countAll b j) (Vec.joinL (giveAll a) (giveAll b)) = true := sameT_of (fun j hj => countAll_app a b j hj) (giveAll_app a b)
theorem same_turned (a b : List Ev) : sameT (countAll (a ++ b)) (giveAll (a ++ b)) (fun j => countAll b j + countAll a j) (Vec.joinL (giveAll b) (giveAll a)) = true :=
  sameT_of (fun j hj => by rw [countAll_app a b j hj]; omega) (by rw [giveAll_app, joinL_comm (giveAll_ok a) (giveAll_ok b)])
theorem same_none (a : List Ev) : sameT (countAll a) (giveAll a) (fun j => countAll a j) (Vec.joinL (giveAll a) []) = true :=
  sameT_of (fun _ _ => rfl) (joinL_nil (giveAll_ok a)).symm

end Go.Proofs.Ytmdeepdediafbaa
