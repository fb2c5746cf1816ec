/- What Frame answers, the program's and the document's. -/
import Derived.Test.YthkccaifabpleaaCrcSeal
import Derived.Test.YthkccaifabpleaaCountPut
import Derived.Test.YthkccaifabpleaaRefPut
import Derived.Test.YthkccaifabpleaaWalPlain
namespace Go.Proofs.Ythkccaifabpleaa
open Go.RowKit

theorem append_str (p q : List UInt8) : (⟨p.toArray⟩ : ByteArray) ++ ⟨q.toArray⟩ = ⟨(p ++ q).toArray⟩ := by
  apply ByteArray.ext; rw [ByteArray.data_append]; simp
theorem append_str' (p : List UInt8) (s : ByteArray) : (⟨p.toArray⟩ : ByteArray) ++ s = ⟨(p ++ s.data.toList).toArray⟩ := by
  apply ByteArray.ext; rw [ByteArray.data_append]; simp
theorem put_at (n : Int) (l : List UInt8) (h : Count.putL n = l) (w : World) :
    Calls Try.prog 20 #[.int .i64 n] w fun e w' => e = .returned (.string ⟨l.toArray⟩) ∧ Ext w w' := by subst h; exact put_any n w
theorem refPut_at (n : Int) (l : List UInt8) (h : Count.putL n = l) (w : World) :
    Calls Try.prog 23 #[.int .i64 n] w fun e w' => e = .returned (.string ⟨l.toArray⟩) ∧ Ext w w' := by subst h; exact refPut_any n w
theorem seal_at (t : ByteArray) (l m : List UInt8) (hl : t.data.toList = l) (hm : Crc.seal' l = m) (w : World) (hs : t.size ≤ 140737488351232) :
    Calls Try.prog 21 #[.string t] w fun e w' => e = .returned (.string ⟨m.toArray⟩) ∧ Ext w w' := by subst hl hm; exact crc_seal_any t w hs
theorem refSeal_at (t : ByteArray) (l m : List UInt8) (hl : t.data.toList = l) (hm : Crc.seal' l = m) (w : World) (hs : t.size ≤ 140737488351232) :
    Calls Try.prog 22 #[.string t] w fun e w' => e = .returned (.string ⟨m.toArray⟩) ∧ Ext w w' := by subst hl hm; exact ref_seal_any t w hs

theorem putL_nat (n : Nat) (h : n ≤ 1073741824) : Count.putL (n : Int) = Count.put n := by unfold Count.putL; rw [if_pos (by omega)]; rfl

set_option maxRecDepth 100000 in
set_option maxHeartbeats 400000 in
theorem frame_yes (n : Nat) (s : ByteArray) (w : World) (hn : n ≤ 1073741824) (hs : s.size ≤ 1000000) :
    Calls Try.prog 9 #[.int .i64 n, .string s] w fun e w' => e = .returned (.string ⟨(Wal.frame n s.data.toList).toArray⟩) ∧ Ext w w' := by
  have hf : Wal.frame n s.data.toList = Crc.seal' (Count.put n ++ Count.put s.size ++ s.data.toList) := by unfold Wal.frame; rw [if_pos (by omega)]; rfl
  have hp := putL_nat n hn
  have hq := putL_nat s.size (by omega)
  have p1 := Count.put_pos n
  have q1 := Count.put_pos s.size
  have p5 := Count.put_length5 hn
  have q5 := Count.put_length5 (n := s.size) (by omega)
  rw [hf]
  clear hf
  generalize Count.put n = p at hp p1 p5 ⊢
  generalize Count.put s.size = q at hq q1 q5 ⊢
  have pe : p.isEmpty = false := by cases p <;> simp_all
  have qe : q.isEmpty = false := by cases q <;> simp_all
  obtain ⟨m, hm⟩ : ∃ m, Crc.seal' (p ++ q ++ s.data.toList) = m := ⟨_, rfl⟩
  rw [hm]
  have hcat : (⟨p.toArray⟩ : ByteArray) ++ ⟨q.toArray⟩ ++ s = ⟨(p ++ q ++ s.data.toList).toArray⟩ := by rw [append_str, append_str']
  have hsz : ((⟨p.toArray⟩ : ByteArray) ++ ⟨q.toArray⟩ ++ s).size ≤ 140737488351232 := by
    rw [ByteArray.size_append, ByteArray.size_append, show (⟨p.toArray⟩ : ByteArray).size = p.length from rfl, show (⟨q.toArray⟩ : ByteArray).size = q.length from rfl]; omega
  have HP := Lib.hid hp
  have HQ := Lib.hid hq
  have HM := Lib.hid hm
  have HC := Lib.hid hcat
  clear hp hq hm hcat
  go_enter Try.func9, Try.ntmps9
  go_wp2_with fail
  refine (put_at _ p HP.out _).mono ?_
  rintro e w1 ⟨rfl, h1⟩
  go_wp2_with fail
  refine (put_at _ q HQ.out _).mono ?_
  rintro e w2 ⟨rfl, h2⟩
  go_wp2_with fail
  refine (seal_at _ _ m (by rw [HC.out]) HM.out _ hsz).mono ?_
  rintro e w3 ⟨rfl, h3⟩
  go_wp2
  go_ret
  exact ⟨rfl, (h1.trans h2).trans h3⟩

set_option maxRecDepth 100000 in
theorem frame_no (n : Int) (s : ByteArray) (w : World) (hn : ¬ (0 ≤ n ∧ n ≤ 1073741824)) (_hs : s.size ≤ 1000000) :
    Calls Try.prog 9 #[.int .i64 n, .string s] w fun e w' => e = .returned (.string ⟨#[]⟩) ∧ Ext w w' := by
  have hp : Count.putL n = [] := by unfold Count.putL; rw [if_neg hn]
  have HP := Lib.hid hp
  clear hp hn
  go_enter Try.func9, Try.ntmps9
  go_wp2_with fail
  refine (put_at _ [] HP.out _).mono ?_
  rintro e w1 ⟨rfl, h1⟩
  go_wp2_with fail
  refine (put_any _ _).mono ?_
  rintro e w2 ⟨rfl, h2⟩
  go_wp2
  go_ret
  exact ⟨rfl, h1.trans h2⟩

/-- What Frame answers. -/
theorem frame_any (n : Int) (s : ByteArray) (w : World) (hs : s.size ≤ 1000000) :
    Calls Try.prog 9 #[.int .i64 n, .string s] w fun e w' => e = .returned (.string ⟨(Wal.frame n s.data.toList).toArray⟩) ∧ Ext w w' := by
  by_cases hn : 0 ≤ n ∧ n ≤ 1073741824
  · obtain ⟨k, rfl⟩ := Int.eq_ofNat_of_zero_le hn.1
    exact frame_yes k s w (by omega) hs
  · have := frame_no n s w hn hs
    unfold Wal.frame
    rw [if_neg hn]
    exact this

set_option maxRecDepth 100000 in
set_option maxHeartbeats 400000 in
theorem refFrame_yes (n : Nat) (s : ByteArray) (w : World) (hn : n ≤ 1073741824) (hs : s.size ≤ 1000000) :
    Calls Try.prog 10 #[.int .i64 n, .string s] w fun e w' => e = .returned (.string ⟨(Wal.frame n s.data.toList).toArray⟩) ∧ Ext w w' := by
  have hf : Wal.frame n s.data.toList = Crc.seal' (Count.put n ++ Count.put s.size ++ s.data.toList) := by unfold Wal.frame; rw [if_pos (by omega)]; rfl
  have hp := putL_nat n hn
  have hq := putL_nat s.size (by omega)
  have p5 := Count.put_length5 hn
  have q5 := Count.put_length5 (n := s.size) (by omega)
  rw [hf]
  clear hf
  generalize Count.put n = p at hp p5 ⊢
  generalize Count.put s.size = q at hq q5 ⊢
  obtain ⟨m, hm⟩ : ∃ m, Crc.seal' (p ++ q ++ s.data.toList) = m := ⟨_, rfl⟩
  rw [hm]
  have hcat : (⟨p.toArray⟩ : ByteArray) ++ ⟨q.toArray⟩ ++ s = ⟨(p ++ q ++ s.data.toList).toArray⟩ := by rw [append_str, append_str']
  have hsz : ((⟨p.toArray⟩ : ByteArray) ++ ⟨q.toArray⟩ ++ s).size ≤ 140737488351232 := by
    rw [ByteArray.size_append, ByteArray.size_append, show (⟨p.toArray⟩ : ByteArray).size = p.length from rfl, show (⟨q.toArray⟩ : ByteArray).size = q.length from rfl]; omega
  have HP := Lib.hid hp
  have HQ := Lib.hid hq
  have HM := Lib.hid hm
  have HC := Lib.hid hcat
  clear hp hq hm hcat
  go_enter Try.func10, Try.ntmps10
  go_wp2_with fail
  refine (refPut_at _ p HP.out _).mono ?_
  rintro e w1 ⟨rfl, h1⟩
  go_wp2_with fail
  refine (refPut_at _ q HQ.out _).mono ?_
  rintro e w2 ⟨rfl, h2⟩
  go_wp2_with fail
  refine (refSeal_at _ _ m (by rw [HC.out]) HM.out _ hsz).mono ?_
  rintro e w3 ⟨rfl, h3⟩
  go_wp2
  go_ret
  exact ⟨rfl, (h1.trans h2).trans h3⟩

set_option maxRecDepth 100000 in
theorem refFrame_no (n : Int) (s : ByteArray) (w : World) (hn : n < 0 ∨ (0 ≤ n ∧ 1073741824 < n)) (_hs : s.size ≤ 1000000) :
    Calls Try.prog 10 #[.int .i64 n, .string s] w fun e w' => e = .returned (.string ⟨#[]⟩) ∧ Ext w w' := by
  rcases hn with hn | ⟨hn, h2⟩
  all_goals
    go_enter Try.func10, Try.ntmps10
    go_wp2
    go_ret
    exact ⟨rfl, Ext.refl _⟩

/-- What the document's Frame answers. -/
theorem refFrame_any (n : Int) (s : ByteArray) (w : World) (hs : s.size ≤ 1000000) :
    Calls Try.prog 10 #[.int .i64 n, .string s] w fun e w' => e = .returned (.string ⟨(Wal.frame n s.data.toList).toArray⟩) ∧ Ext w w' := by
  by_cases hn : 0 ≤ n ∧ n ≤ 1073741824
  · obtain ⟨k, rfl⟩ := Int.eq_ofNat_of_zero_le hn.1
    exact refFrame_yes k s w (by omega) hs
  · have := refFrame_no n s w (by omega) hs
    unfold Wal.frame
    rw [if_neg hn]
    exact this

end Go.Proofs.Ythkccaifabpleaa
