/- What first answers: the first record of bytes, and how many bytes its frame has. -/
import Derived.Test.YthkccaifabpleaaCrcSeal
import Derived.Test.YthkccaifabpleaaCountTake
import Derived.Test.YthkccaifabpleaaWalPlain
import Derived.WalkSpells
namespace Go.Proofs.Ythkccaifabpleaa
open Go.RowKit

/-- first's answer, as it lies in the machine. -/
def firstV : Option (List UInt8 × Nat) → Value
  | some (s, k) => .tuple #[.string (str s), .int .i64 (k : Int)]
  | none => .tuple #[.string (str []), .int .i64 0]

theorem take_at (s : ByteArray) (l : List UInt8) (a b c : Nat) (hl : s.data.toList = l) (h : Count.takeL l = (a, b, c)) (w : World) (hs : s.size ≤ maxLen) :
    Calls Try.prog 34 #[.string s] w fun e w' => e = .returned (.tuple #[.int .i64 (a : Int), .int .i64 (b : Int), .int .i64 (c : Int)]) ∧ Ext w w' := by
  subst hl
  have := take_any s w hs
  rw [h] at this
  exact this

theorem drop_data (b : ByteArray) (k : Nat) : (b.extract k b.size).data.toList = b.data.toList.drop k := by
  rw [Lib.extract_data, List.take_of_length_le (by rw [List.length_drop]; exact Nat.le_refl _)]

set_option maxRecDepth 100000 in
theorem first_err (b : ByteArray) (n a k c : Nat) (w : World) (hs : b.size ≤ 1000000) (h : Count.takeL b.data.toList = (a, k, c)) (hc : ((c : Int) != 0) = true ∨ ((c : Int) != 0) = false ∧ ((a : Int) != (n : Int)) = true) :
    Calls Try.prog 24 #[.string b, .int .i64 n] w fun e w' => e = .returned (.tuple #[.string (str []), .int .i64 0]) ∧ Ext w w' := by
  have HT := Lib.hid h
  clear h
  rcases hc with hc | ⟨hc, ha⟩
  all_goals
    go_enter Try.func24, Try.ntmps24
    go_wp2_with fail
    refine (take_at _ _ a k c rfl HT.out _ (by unfold maxLen; omega)).mono ?_
    rintro e w1 ⟨rfl, h1⟩
    go_wp2
    go_ret2
    exact ⟨rfl, h1⟩

set_option maxRecDepth 100000 in
set_option maxHeartbeats 400000 in
theorem first_err2 (b : ByteArray) (n k x m c : Nat) (w : World) (hs : b.size ≤ 1000000) (h : Count.takeL b.data.toList = (n, k, 0)) (hk : k ≤ b.size) (h2 : Count.takeL (b.data.toList.drop k) = (x, m, c))
    (hm : m ≤ b.size) (hx : x ≤ 1073741824)
    (hc : ((c : Int) != 0) = true ∨ ((c : Int) != 0) = false ∧ (b.size : Int) - (k + m) - 4 < (x : Int)) :
    Calls Try.prog 24 #[.string b, .int .i64 n] w fun e w' => e = .returned (.tuple #[.string (str []), .int .i64 0]) ∧ Ext w w' := by
  have HT := Lib.hid h
  have HU := Lib.hid h2
  have hn : ((n : Int) != (n : Int)) = false := by simp
  have hz : (b.extract k b.size).size ≤ maxLen := by rw [ByteArray.size_extract]; unfold maxLen; omega
  clear h h2
  rcases hc with hc | ⟨hc, ha⟩
  all_goals
    go_enter Try.func24, Try.ntmps24
    go_wp2_with fail
    refine (take_at _ _ n k 0 rfl HT.out _ (by unfold maxLen; omega)).mono ?_
    rintro e w1 ⟨rfl, h1⟩
    go_wp2_with fail
    refine (take_at _ _ x m c (drop_data b k) HU.out _ hz).mono ?_
    rintro e w2 ⟨rfl, h2⟩
    go_wp2
    go_ret2
    exact ⟨rfl, h1.trans h2⟩

theorem open_at (t : ByteArray) (l : List UInt8) (o : List UInt8 × Bool) (hl : t.data.toList = l) (ho : openL l = o) (w : World) (hs : t.size ≤ 140737488351232) :
    Calls Try.prog 35 #[.string t] w fun e w' => e = .returned (.tuple #[.string (str o.1), .bool o.2]) ∧ Ext w w' := by subst hl ho; exact crc_open_any t w hs

theorem openL_not {l : List UInt8} (h : ¬ Crc.whole l) : openL l = ([], false) := by
  unfold openL
  split
  · rfl
  · exact if_neg h
theorem openL_is {l : List UInt8} (h4 : 4 ≤ l.length) (h : Crc.whole l) : openL l = (l.take (l.length - 4), true) := by
  unfold openL
  rw [if_neg (by omega)]; exact if_pos h

set_option maxRecDepth 100000 in
set_option maxHeartbeats 400000 in
theorem first_torn (b : ByteArray) (n k x m : Nat) (w : World) (hs : b.size ≤ 1000000) (h : Count.takeL b.data.toList = (n, k, 0)) (h2 : Count.takeL (b.data.toList.drop k) = (x, m, 0))
    (hl : k + m + x + 4 ≤ b.size) (hw : ¬ Crc.whole (b.data.toList.take (k + m + x + 4))) :
    Calls Try.prog 24 #[.string b, .int .i64 n] w fun e w' => e = .returned (.tuple #[.string (str []), .int .i64 0]) ∧ Ext w w' := by
  have HT := Lib.hid h
  have HU := Lib.hid h2
  have HO := Lib.hid (openL_not hw)
  have hn : ((n : Int) != (n : Int)) = false := by simp
  have hz : (b.extract k b.size).size ≤ maxLen := by rw [ByteArray.size_extract]; unfold maxLen; omega
  have hy : (b.extract 0 (k + m + x + 4)).size ≤ 140737488351232 := by rw [ByteArray.size_extract]; omega
  have HD := Lib.hid (show (b.extract 0 (k + m + x + 4)).data.toList = b.data.toList.take (k + m + x + 4) by rw [Lib.extract_data]; rfl)
  clear h h2 hw
  go_enter Try.func24, Try.ntmps24
  go_wp2_with fail
  refine (take_at _ _ n k 0 rfl HT.out _ (by unfold maxLen; omega)).mono ?_
  rintro e w1 ⟨rfl, h1⟩
  go_wp2_with fail
  refine (take_at _ _ x m 0 (drop_data b k) HU.out _ hz).mono ?_
  rintro e w2 ⟨rfl, h2⟩
  go_wp2_with fail
  refine (open_at _ _ _ HD.out HO.out _ hy).mono ?_
  rintro e w3 ⟨rfl, h3⟩
  go_wp2
  go_ret2
  exact ⟨rfl, (h1.trans h2).trans h3⟩

set_option maxRecDepth 100000 in
set_option maxHeartbeats 400000 in
theorem first_some (b : ByteArray) (n k x m : Nat) (w : World) (hs : b.size ≤ 1000000) (h : Count.takeL b.data.toList = (n, k, 0)) (h2 : Count.takeL (b.data.toList.drop k) = (x, m, 0))
    (hl : k + m + x + 4 ≤ b.size) (hw : Crc.whole (b.data.toList.take (k + m + x + 4))) :
    Calls Try.prog 24 #[.string b, .int .i64 n] w fun e w' => e = .returned (.tuple #[.string (str ((b.data.toList.drop (k + m)).take x)), .int .i64 ((k + m + x + 4 : Nat) : Int)]) ∧ Ext w w' := by
  have HT := Lib.hid h
  have HU := Lib.hid h2
  have hlen : (b.data.toList.take (k + m + x + 4)).length = k + m + x + 4 := by rw [List.length_take]; have : b.data.toList.length = b.size := rfl; omega
  have HO := Lib.hid (openL_is (by omega) hw)
  have hn : ((n : Int) != (n : Int)) = false := by simp
  have hz : (b.extract k b.size).size ≤ maxLen := by rw [ByteArray.size_extract]; unfold maxLen; omega
  have hy : (b.extract 0 (k + m + x + 4)).size ≤ 140737488351232 := by rw [ByteArray.size_extract]; omega
  have HD := Lib.hid (show (b.extract 0 (k + m + x + 4)).data.toList = b.data.toList.take (k + m + x + 4) by rw [Lib.extract_data]; rfl)
  have HS := Lib.hid (show b.extract (k + m) (k + m + x) = str ((b.data.toList.drop (k + m)).take x) by
    have : (b.extract (k + m) (k + m + x)).data.toList = (b.data.toList.drop (k + m)).take x := by rw [Lib.extract_data]; congr 1; omega
    rw [← this]; rfl)
  clear h h2 hw hlen
  go_enter Try.func24, Try.ntmps24
  go_wp2_with fail
  refine (take_at _ _ n k 0 rfl HT.out _ (by unfold maxLen; omega)).mono ?_
  rintro e w1 ⟨rfl, h1⟩
  go_wp2_with fail
  refine (take_at _ _ x m 0 (drop_data b k) HU.out _ hz).mono ?_
  rintro e w2 ⟨rfl, h2⟩
  go_wp2_with fail
  refine (open_at _ _ _ HD.out HO.out _ hy).mono ?_
  rintro e w3 ⟨rfl, h3⟩
  go_wp2
  go_ret2
  refine ⟨?_, (h1.trans h2).trans h3⟩
  rw [← HS.out]
  rfl

/-- What first answers. -/
theorem first_any (b : ByteArray) (n : Nat) (w : World) (hs : b.size ≤ 1000000) :
    Calls Try.prog 24 #[.string b, .int .i64 n] w fun e w' => e = .returned (firstV (Wal.scan1 b.data.toList n)) ∧ Ext w w' := by
  have hbl : b.data.toList.length = b.size := rfl
  obtain ⟨a, k, c, h, hf⟩ := Wal.take_facts b.data.toList
  rcases hf with ⟨hc, _, _⟩ | ⟨rfl, h1, h2, h3, h4, h5⟩
  · rw [Wal.scan1_err h (.inl hc)]
    exact first_err b n a k c w hs h (.inl (by rw [bne_iff_ne]; omega))
  · by_cases hn : a = n
    · subst hn
      obtain ⟨x, m, c, g, hg⟩ := Wal.take_facts (b.data.toList.drop k)
      rcases hg with ⟨hc, hx, hm⟩ | ⟨rfl, g1, g2, g3, g4, g5⟩
      · rw [Wal.scan1_err2 h g (.inl hc)]
        exact first_err2 b a k x m c w hs h (by omega) g (by omega) (by omega) (.inl (by rw [bne_iff_ne]; omega))
      · rw [List.length_drop] at g2
        by_cases hl : k + m + x + 4 ≤ b.size
        · by_cases hw : Crc.whole (b.data.toList.take (k + m + x + 4))
          · rw [Wal.scan1_some h g hl hw]
            exact first_some b a k x m w hs h g hl hw
          · rw [Wal.scan1_torn h g hl hw]
            exact first_torn b a k x m w hs h g hl hw
        · rw [Wal.scan1_err2 h g (.inr (by omega))]
          exact first_err2 b a k x m 0 w hs h (by omega) g (by omega) g3 (.inr ⟨by simp, by omega⟩)
    · rw [Wal.scan1_err h (.inr hn)]
      exact first_err b n a k 0 w hs h (.inr ⟨by simp, by rw [bne_iff_ne]; omega⟩)

end Go.Proofs.Ythkccaifabpleaa
