/- A log upon a disk: what appended records come to, and what a crash leaves: plain. -/
import Derived.Test.YthkccaifabpleaaWalOps
namespace Go.Proofs.Ythkccaifabpleaa
open Go.RowKit

namespace DK
def logS : ByteArray := ⟨#[108, 111, 103]⟩
theorem name_log : nameB logS = true := (nameB_iff logS).2 ⟨by rw [ByteArray.toList_eq]; decide, by decide, by rw [ByteArray.toList_eq]; decide, by rw [ByteArray.toList_eq]; decide, fun i h => by
  have h1 : i < 3 := h
  have : i = 0 ∨ i = 1 ∨ i = 2 := by omega
  rcases this with rfl | rfl | rfl <;> rfl⟩
theorem may_log : mayE false [logS] = 0 := mayE_ok fun i h => by
  have : i = 0 := by simpa using h
  subst this
  show okN logS = true
  unfold okN
  rw [name_log]
  decide
/-- The files of a disk that has a log at most. -/
def fileB : Option (List UInt8) → Files
  | none => []
  | some l => [(logS, str l)]
theorem get_log (c : Option (List UInt8)) : get (fileB c) logS = str (c.getD []) := by
  cases c with
  | none => rfl
  | some l => simp [get, fileB]
theorem has_log (c : Option (List UInt8)) : has (fileB c) logS = c.isSome := by
  cases c with
  | none => rfl
  | some l => unfold has fileB; simp
theorem put_log (c : Option (List UInt8)) (x : List UInt8) : put (fileB c) logS (str x) = fileB (some x) := by
  cases c with
  | none => rfl
  | some l => unfold put fileB without; simp [ins]
theorem ba_ext {a b : ByteArray} (h : a.data.toList = b.data.toList) : a = b := WideShapes.bytes_inj h
theorem over_log (l f : List UInt8) : over (str l) l.length (str f) = str (l ++ f) := by
  apply ba_ext
  unfold over
  have hs : (str l).size = l.length := rfl
  have hf : (str f).size = f.length := rfl
  rw [hs, hf, Nat.min_eq_right (by omega), ByteArray.data_append, ByteArray.data_append, Array.toList_append, Array.toList_append, Lib.extract_data, Lib.extract_data]
  show (((str l).data.toList.drop 0).take (l.length - 0)) ++ (str f).data.toList ++ (((str l).data.toList.drop l.length).take (l.length - l.length)) = l ++ f
  simp [str]
theorem extract_str (f : List UInt8) (q : Nat) : (str f).extract 0 q = str (f.take q) := by
  apply ba_ext
  rw [Lib.extract_data]
  show (((str f).data.toList.drop 0).take (q - 0)) = f.take q
  simp [str]
theorem do_log (c : Option (List UInt8)) (f : List UInt8) : doS (fileB c) (.write logS (c.getD []).length (str f)) = fileB (some (c.getD [] ++ f)) := by
  show put (fileB c) logS (over (get (fileB c) logS) (c.getD []).length (str f)) = _
  rw [get_log, over_log, put_log]
def fitsL (room : Int) (l : List UInt8) : Bool := decide ((blk l.length : Int) ≤ room)
theorem fits_log (d : D) (l : List UInt8) : fitsB d (fileB (some l)) = fitsL d.room l := by
  unfold fitsB fitsL fileB blocks
  have hs : (str l).size = l.length := rfl
  simp [hs]

/-- A disk with a log, of which all stays. -/
def stD (room : Int) (c : Option (List UInt8)) : D := ⟨room, fileB c, fileB c, [], false, false, 0⟩
def stF (room : Int) (c : Option (List UInt8)) (k : Int) : D := ⟨room, fileB c, fileB c, [], false, true, k⟩
theorem small_log {N : Nat} (c : Option (List UInt8)) (h : (c.getD []).length ≤ N) (hN : 3 ≤ N) : Small N (fileB c) := by
  cases c with
  | none => exact small_nil N
  | some l =>
    refine ⟨by show 1 ≤ N; omega, fun p hp => ?_⟩
    obtain rfl : p = (logS, str l) := by simpa [fileB] using hp
    exact ⟨hN, h⟩
theorem good_log {N : Nat} {room : Int} (hr : 0 ≤ room ∧ room ≤ 32768) (c : Option (List UInt8)) (h : (c.getD []).length ≤ N) (hN : 3 ≤ N) : Good N (stD room c) :=
  ⟨rfl, fun i hi => absurd hi (Nat.not_lt_zero _), fun i hi => (by
    obtain rfl : i = 0 := Nat.le_zero.1 hi
    exact small_log c h hN), hr, fun h => (by cases h), Nat.zero_le _⟩
theorem good_fuse {N : Nat} {room : Int} (hr : 0 ≤ room ∧ room ≤ 32768) (c : Option (List UInt8)) (k : Int) (hk : 0 ≤ k ∧ k ≤ 1) (h : (c.getD []).length ≤ N) (hN : 3 ≤ N) : Good N (stF room c k) :=
  ⟨rfl, fun i hi => absurd hi (Nat.not_lt_zero _), fun i hi => (by
    obtain rfl : i = 0 := Nat.le_zero.1 hi
    exact small_log c h hN), hr, fun _ _ => (by show 0 ≤ k ∧ k ≤ _; omega), Nat.zero_le _⟩
theorem write_log (d : D) (c : Option (List UInt8)) (f : List UInt8) (hd : d.dead = false) (hn : d.now = fileB c) :
    write d logS (c.getD []).length (str f) = if fitsL d.room (c.getD [] ++ f) = true then (took d (.write logS (c.getD []).length (str f)), if (took d (.write logS (c.getD []).length (str f))).dead = true then 10 else 0) else (d, 4) := by
  have h1 : mayE d.dead [logS] = 0 := by rw [hd]; exact may_log
  have hg : get d.now logS = str (c.getD []) := by rw [hn, get_log]
  have hs : (str (c.getD [])).size = (c.getD []).length := rfl
  have h2 : ¬ (((c.getD []).length : Int) < 0 ∨ ((get d.now logS).size : Int) < ((c.getD []).length : Int)) := by rw [hg, hs]; omega
  have h3 : doS d.now (.write logS (((c.getD []).length : Int)).toNat (str f)) = fileB (some (c.getD [] ++ f)) := by
    rw [hn]
    exact do_log c f
  have h4 : fitsB d (doS d.now (.write logS (((c.getD []).length : Int)).toNat (str f))) = fitsL d.room (c.getD [] ++ f) := by rw [h3, fits_log]
  cases hf : fitsL d.room (c.getD [] ++ f) with
  | true =>
    rw [if_pos rfl]
    exact write_took h1 h2 (by rw [h4, hf])
  | false =>
    rw [if_neg (by simp)]
    unfold write
    rw [if_neg (by rw [h1]; simp), if_neg h2, if_pos (by rw [h4, hf])]
/-- A record that has room is there for good; one that has none changes nothing. -/
theorem append_log (room : Int) (c : Option (List UInt8)) (n : Int) (s : ByteArray) (hf : Wal.frame n s.data.toList ≠ []) :
    append (stD room c) logS n (c.getD []).length s = if fitsL room (c.getD [] ++ Wal.frame n s.data.toList) = true then (stD room (some (c.getD [] ++ Wal.frame n s.data.toList)), 0) else (stD room c, 4) := by
  unfold append
  generalize Wal.frame n s.data.toList = f at *
  rw [if_neg hf, write_log (stD room c) c f rfl rfl]
  have hr : (stD room c).room = room := rfl
  rw [hr]
  cases hb : fitsL room (c.getD [] ++ f) with
  | false => simp
  | true =>
    have ht : took (stD room c) (.write logS (c.getD []).length (str f)) = ⟨room, fileB c, fileB (some (c.getD [] ++ f)), [.write logS (c.getD []).length (str f)], false, false, 0⟩ := by
      unfold took
      have : doS (stD room c).now (.write logS (c.getD []).length (str f)) = fileB (some (c.getD [] ++ f)) := do_log c f
      rw [this]
      rfl
    rw [ht]
    rfl
/-- A disk on which a record was on its way when it died. -/
def stX (room : Int) (c : Option (List UInt8)) (f : List UInt8) : D := ⟨room, fileB c, fileB (some (c.getD [] ++ f)), [.write logS (c.getD []).length (str f)], true, true, -1⟩
theorem append_torn (room : Int) (c : Option (List UInt8)) (k : Int) (hk : k = 0 ∨ k = 1) (n : Int) (s : ByteArray) (hf : Wal.frame n s.data.toList ≠ []) (hfit : fitsL room (c.getD [] ++ Wal.frame n s.data.toList) = true) :
    append (stF room c k) logS n (c.getD []).length s = (stX room c (Wal.frame n s.data.toList), 10) := by
  unfold append
  generalize Wal.frame n s.data.toList = f at *
  rw [if_neg hf, write_log (stF room c k) c f rfl rfl]
  have hr : (stF room c k).room = room := rfl
  rw [hr, if_pos hfit]
  have hd : doS (stF room c k).now (.write logS (c.getD []).length (str f)) = fileB (some (c.getD [] ++ f)) := do_log c f
  have ht : took (stF room c k) (.write logS (c.getD []).length (str f)) = ⟨room, fileB c, fileB (some (c.getD [] ++ f)), [.write logS (c.getD []).length (str f)], decide (k - 1 < 0), true, k - 1⟩ := by
    unfold took
    rw [hd]
    rfl
  rw [ht]
  rcases hk with rfl | rfl <;> rfl
/-- What a crash leaves of it. -/
theorem crash_torn (room : Int) (c : Option (List UInt8)) (f : List UInt8) (keep tk : Int) : ∃ c', crash (stX room c f) keep tk = stD room c' ∧ (c' = c ∨ ∃ j, j ≤ f.length ∧ c' = some (c.getD [] ++ f.take j)) := by
  have hl : ∃ c', left (stX room c f) keep tk = fileB c' ∧ (c' = c ∨ ∃ j, j ≤ f.length ∧ c' = some (c.getD [] ++ f.take j)) := by
    unfold left
    have htd : (stX room c f).todo = [.write logS (c.getD []).length (str f)] := rfl
    have hsf : (stX room c f).safe = fileB c := rfl
    rw [htd, hsf]
    have hmin : min keep.toNat [Step.write logS (c.getD []).length (str f)].length = 0 ∨ min keep.toNat [Step.write logS (c.getD []).length (str f)].length = 1 := by
      show min keep.toNat 1 = 0 ∨ min keep.toNat 1 = 1
      omega
    rcases hmin with h | h
    · simp only [h]
      by_cases ht : 0 < tk
      · refine ⟨some (c.getD [] ++ f.take (min tk.toNat f.length)), ?_, .inr ⟨_, Nat.min_le_right _ _, rfl⟩⟩
        show (if 0 < tk then doS (fileB c) (.write logS (c.getD []).length ((str f).extract 0 (min tk.toNat (str f).size))) else _) = _
        rw [if_pos ht, extract_str, do_log]
        rfl
      · refine ⟨c, ?_, .inl rfl⟩
        show (if 0 < tk then _ else fileB c) = _
        rw [if_neg ht]
    · simp only [h]
      refine ⟨some (c.getD [] ++ f), ?_, .inr ⟨f.length, Nat.le_refl _, by rw [List.take_length]⟩⟩
      show doS (fileB c) (.write logS (c.getD []).length (str f)) = _
      exact do_log c f
  obtain ⟨c', h1, h2⟩ := hl
  refine ⟨c', ?_, h2⟩
  unfold crash
  rw [h1]
  rfl
theorem crash_log (room : Int) (c : Option (List UInt8)) (keep tk : Int) : crash (stD room c) keep tk = stD room c := by
  have hl : left (stD room c) keep tk = fileB c := by
    unfold left
    have htd : (stD room c).todo = [] := rfl
    rw [htd]
    simp [runs, stD]
  unfold crash
  rw [hl]
  rfl
theorem fuse_log (room : Int) (c : Option (List UInt8)) (k : Int) (hk : 0 ≤ k) : setFuse (stD room c) k = stF room c k := by
  unfold setFuse
  rw [decide_eq_true hk]
  rfl
/-- The bytes of a log with these records, if there are some. -/
def optL (L : List (List UInt8)) : Option (List UInt8) := if L = [] then none else some (Wal.frames 0 L)
theorem optL_get (L : List (List UInt8)) : (optL L).getD [] = Wal.frames 0 L := by
  unfold optL
  by_cases h : L = []
  · rw [if_pos h, h]; rfl
  · rw [if_neg h]; rfl
theorem optL_snoc (L : List (List UInt8)) (s : List UInt8) : optL (L ++ [s]) = some ((optL L).getD [] ++ Wal.frame (L.length : Nat) s) := by
  rw [optL_get]
  unfold optL
  rw [if_neg (by simp), Wal.frames_snoc, Nat.zero_add]
end DK
end Go.Proofs.Ythkccaifabpleaa
