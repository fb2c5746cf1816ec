/- The plain law of frames, one behind the other, cut anywhere. -/
import Derived.Test.YthkccaifabpleaaWalPlain
namespace Go.Proofs.Ythkccaifabpleaa.Wal

theorem frame_eq {n : Nat} (hn : n ≤ 1073741824) (s : List UInt8) : frame n s = Crc.seal' (Count.put n ++ Count.put s.length ++ s) := by
  unfold frame; rw [if_pos (by omega)]; rfl
theorem frame_len {n : Nat} (hn : n ≤ 1073741824) (s : List UInt8) : (frame n s).length = (Count.put n).length + (Count.put s.length).length + s.length + 4 := by
  rw [frame_eq hn, seal_length]; simp only [List.length_append]
theorem frame_pos {n : Nat} (hn : n ≤ 1073741824) (s : List UInt8) : s.length + 6 ≤ (frame n s).length := by
  rw [frame_len hn]; have := Count.put_pos n; have := Count.put_pos s.length; omega
theorem frame_most {n : Nat} (hn : n ≤ 1073741824) (s : List UInt8) (hs : s.length ≤ 1073741824) : (frame n s).length ≤ s.length + 14 := by
  rw [frame_len hn]; have := Count.put_length5 hn; have := Count.put_length5 hs; omega

theorem seal_is (l : List UInt8) : Crc.whole (Crc.seal' l) := by
  unfold Crc.whole
  rw [seal_length, Nat.add_sub_cancel]
  unfold Crc.seal'
  rw [List.take_left]

theorem frame_head {n : Nat} (hn : n ≤ 1073741824) (s r : List UInt8) : ∃ q, frame n s ++ r = Count.put n ++ (Count.put s.length ++ (s ++ q)) ∧ q = Crc.le4 (Crc.sum (Count.put n ++ Count.put s.length ++ s)) ++ r := by
  refine ⟨_, ?_, rfl⟩
  rw [frame_eq hn]
  unfold Crc.seal'
  simp only [List.append_assoc]

/-- A whole frame is read. -/
theorem scan1_frame {n : Nat} (hn : n ≤ 1073741824) (s r : List UInt8) (hs : s.length ≤ 1073741824) : scan1 (frame n s ++ r) n = some (s, (frame n s).length) := by
  obtain ⟨q, hq, hq2⟩ := frame_head hn s r
  have h1 : Count.takeL (frame n s ++ r) = (n, (Count.put n).length, 0) := by rw [hq]; exact Count.take_put n _ hn
  have hd : (frame n s ++ r).drop (Count.put n).length = Count.put s.length ++ (s ++ q) := by rw [hq, List.drop_left]
  have h2 : Count.takeL ((frame n s ++ r).drop (Count.put n).length) = (s.length, (Count.put s.length).length, 0) := by rw [hd]; exact Count.take_put s.length _ hs
  have hlen := frame_len hn s
  have ht : (frame n s ++ r).take ((Count.put n).length + (Count.put s.length).length + s.length + 4) = frame n s := by rw [← hlen, List.take_left]
  have := scan1_some h1 h2 (by rw [List.length_append, hlen]; omega) (by rw [ht, frame_eq hn]; exact seal_is _)
  rw [this, hlen]
  congr 1
  rw [← List.drop_drop, hd, List.drop_left, List.take_left]

/-- What begins as a frame begins has the frame's length. -/
theorem frame_same {n : Nat} (hn : n ≤ 1073741824) {s t r q : List UInt8} (hs : s.length ≤ 1073741824) (ht : t.length ≤ 1073741824) (h : frame n s ++ r = frame n t ++ q) : s.length = t.length := by
  have h1 := scan1_frame hn s r hs
  rw [h, scan1_frame hn t q ht] at h1
  injection h1 with h1
  injection h1 with h1 _
  rw [h1]

/-- A frame that was cut is none. -/
theorem scan1_cut {n : Nat} (hn : n ≤ 1073741824) (s : List UInt8) (hs : s.length ≤ 1000000) (j : Nat) (hj : j < (frame n s).length) : scan1 ((frame n s).take j) n = none := by
  rcases scan1_cases ((frame n s).take j) n with h | ⟨t, k, h, h5, hk, htk, hf, _⟩
  · exact h
  · exfalso
    have hm := frame_most hn s (by omega)
    rw [List.length_take] at hk
    rw [List.take_take, Nat.min_eq_left (by omega)] at hf
    have he : frame n s ++ [] = frame n t ++ (frame n s).drop k := by rw [List.append_nil, ← hf, List.take_append_drop]
    have hl := frame_same hn (by omega) (by omega) he
    have e1 := frame_len hn s
    have e2 := frame_len hn t
    have e3 := congrArg List.length hf
    rw [List.length_take] at e3
    rw [← hl] at e2
    omega

theorem scan1_nil (n : Nat) : scan1 [] n = none := by
  rcases scan1_cases [] n with h | ⟨t, k, h, h5, hk, _⟩
  · exact h
  · simp at hk; omega

/-- Frames, one behind the other, from the n-th on. -/
def frames (n : Nat) : List (List UInt8) → List UInt8
  | [] => []
  | s :: l => frame n s ++ frames (n + 1) l

theorem frames_snoc : ∀ (l : List (List UInt8)) (n : Nat) (s : List UInt8), frames n (l ++ [s]) = frames n l ++ frame (n + l.length : Nat) s := by
  intro l
  induction l with
  | nil => intro n s; simp [frames]
  | cons a l ih => intro n s; rw [List.cons_append, frames, ih, frames, List.append_assoc, List.length_cons, show n + 1 + l.length = n + (l.length + 1) from by omega]

theorem frames_append : ∀ (l m : List (List UInt8)) (n : Nat), frames n (l ++ m) = frames n l ++ frames (n + l.length) m := by
  intro l
  induction l with
  | nil => intro m n; simp [frames]
  | cons a l ih => intro m n; rw [List.cons_append, frames, ih, frames, List.append_assoc, List.length_cons, show n + 1 + l.length = n + (l.length + 1) from by omega]

theorem scan_frames : ∀ (l : List (List UInt8)) (n : Nat) (r : List UInt8), n + l.length ≤ 1073741824 → (∀ s ∈ l, s.length ≤ 1073741824) →
    scan (frames n l ++ r) n = (l ++ (scan r (n + l.length)).1, (frames n l).length + (scan r (n + l.length)).2) := by
  intro l
  induction l with
  | nil => intro n r _ _; simp [frames]
  | cons a l ih =>
    intro n r hn hl
    rw [List.length_cons] at hn
    have h1 := scan_some (scan1_frame (n := n) (by omega) a (frames (n + 1) l ++ r) (hl a (by simp)))
    rw [frames, List.append_assoc, h1, List.drop_left, ih (n + 1) r (by omega) (fun s hs => hl s (by simp [hs]))]
    simp only [List.length_cons, List.length_append, List.cons_append, show n + 1 + l.length = n + (l.length + 1) from by omega, Nat.add_assoc]

/-- Frames that were cut: the records whose frames are whole. -/
theorem scan_cut (l : List (List UInt8)) (wh j : Nat) (hl : l.length ≤ 1000000) (hs : ∀ s ∈ l, s.length ≤ 1000000) (hw : wh ≤ l.length) (h1 : (frames 0 (l.take wh)).length ≤ j)
    (h2 : wh = l.length ∨ j < (frames 0 (l.take (wh + 1))).length) :
    scan ((frames 0 l).take j) 0 = (l.take wh, (frames 0 (l.take wh)).length) := by
  have hlt : (l.take wh).length = wh := by rw [List.length_take]; omega
  have hsp : (frames 0 l).take j = frames 0 (l.take wh) ++ (frames wh (l.drop wh)).take (j - (frames 0 (l.take wh)).length) := by
    conv => lhs; rw [← List.take_append_drop wh l, frames_append, hlt, Nat.zero_add, List.take_append]
    rw [List.take_of_length_le h1]
  rw [hsp, scan_frames (l.take wh) 0 _ (by rw [hlt]; omega) (fun s h => by have := hs s (List.mem_of_mem_take h); omega), hlt, Nat.zero_add]
  have hn : scan ((frames wh (l.drop wh)).take (j - (frames 0 (l.take wh)).length)) wh = ([], 0) := by
    rcases h2 with rfl | h2
    · rw [List.drop_length, frames, List.take_nil]; exact scan_none (scan1_nil _)
    · by_cases hw2 : wh < l.length
      · have hin : l[wh] ∈ l := List.getElem_mem hw2
        rw [List.drop_eq_getElem_cons hw2, frames]
        rw [List.take_succ_eq_append_getElem hw2, frames_snoc, hlt, Nat.zero_add, List.length_append] at h2
        have hjl : j - (frames 0 (l.take wh)).length < (frame wh l[wh]).length := by omega
        rw [List.take_append_of_le_length (by omega)]
        exact scan_none (scan1_cut (by omega) _ (hs _ hin) _ hjl)
      · rw [List.drop_eq_nil_of_le (by omega), frames, List.take_nil]; exact scan_none (scan1_nil _)
  rw [hn, List.append_nil, Nat.add_zero]

theorem frames_grow (l : List (List UInt8)) (a b : Nat) (h : a ≤ b) : (frames 0 (l.take a)).length ≤ (frames 0 (l.take b)).length := by
  have : l.take b = l.take a ++ (l.take b).drop a := by
    conv => lhs; rw [← List.take_append_drop a (l.take b), List.take_take, Nat.min_eq_left h]
  rw [this, frames_append, List.length_append]; omega

theorem frames_most : ∀ (l : List (List UInt8)) (n : Nat), n + l.length ≤ 1073741824 → (∀ s ∈ l, s.length ≤ 1073741824) → (frames n l).length ≤ l.flatten.length + 14 * l.length := by
  intro l
  induction l with
  | nil => intro n _ _; simp [frames]
  | cons a l ih =>
    intro n hn hl
    rw [List.length_cons] at hn
    have := ih (n + 1) (by omega) (fun s hs => hl s (by simp [hs]))
    have h2 := frame_most (n := n) (by omega) a (hl a (by simp))
    rw [frames, List.length_append, List.flatten_cons, List.length_append, List.length_cons]; omega

end Go.Proofs.Ythkccaifabpleaa.Wal
