/- What the log's Append and Load answer upon a disk. -/
import Derived.Test.YthkccaifabpleaaWalCutWalk
import Derived.Test.YthkccaifabpleaaDiskCrash
import Derived.Test.YthkccaifabpleaaDiskGood
namespace Go.Proofs.Ythkccaifabpleaa
open Go.RowKit

theorem Left.trans {w w1 w2 : World} {S S1 : Nat → Prop} {B : Nat} {d : DK.D} (ht : Turn S w w1) (hg : Grew w S S1) (h : Left w1 S1 B d w2) : Left w S B d w2 := by
  obtain ⟨S2, h1, h2, h3⟩ := h
  exact ⟨S2, h1, ht.trans hg h2, hg.trans ht.size h3⟩

namespace DK
/-- Append, as the log answers it. -/
noncomputable def append (d : D) (name : ByteArray) (n at_ : Int) (s : ByteArray) : D × Int :=
  if Wal.frame n s.data.toList = [] then (d, 2)
  else if (write d name at_ (str (Wal.frame n s.data.toList))).2 ≠ 0 then write d name at_ (str (Wal.frame n s.data.toList))
  else syncD (write d name at_ (str (Wal.frame n s.data.toList))).1
end DK

set_option maxRecDepth 100000 in
set_option maxHeartbeats 1000000 in
theorem wal_append {w : World} {S : Nat → Prop} {B : Nat} {d : DK.D} {N : Nat} (h : DiskAt w S B d) (hgd : DK.Good N d) (name s : ByteArray) (n at_ : Int) (hN : N + name.size ≤ 1000000) (hs : s.size ≤ 1000000) (hf : (Wal.frame n s.data.toList).length ≤ 2000000) :
    Calls Try.prog 16 #[.pointer (some ⟨B, 0, none⟩), .string name, .int .i64 n, .int .i64 at_, .string s] w fun e w' => e = .returned (.int .i64 (DK.append d name n at_ s).2) ∧ Left w S B (DK.append d name n at_ s).1 w' := by
  have hap : DK.append d name n at_ s = if Wal.frame n s.data.toList = [] then (d, 2) else if (DK.write d name at_ (str (Wal.frame n s.data.toList))).2 ≠ 0 then DK.write d name at_ (str (Wal.frame n s.data.toList)) else DK.syncD (DK.write d name at_ (str (Wal.frame n s.data.toList))).1 := rfl
  obtain ⟨f, hff⟩ : ∃ f, Wal.frame n s.data.toList = f := ⟨_, rfl⟩
  rw [hff] at hap hf
  have HFF := Lib.hid hff
  obtain ⟨r, hr⟩ : ∃ r, DK.append d name n at_ s = r := ⟨_, rfl⟩
  rw [hr] at hap ⊢
  have hfr := frame_at n s _ f rfl HFF.out w hs
  have HFR := Lib.hid hfr
  have HAP := Lib.hid hap
  have HH := Lib.hid h
  have HG := Lib.hid hgd
  clear hff hr hfr hap h hgd
  by_cases hnil : f = []
  · subst hnil
    have he : (str []).toList.isEmpty = true := by rw [ByteArray.toList_eq]; rfl
    have he2 : (str []).toList = [] := by rw [ByteArray.toList_eq]; rfl
    go_enter Try.func16, Try.ntmps16
    go_wp2_with fail
    refine HFR.out.mono ?_
    rintro e w1 ⟨rfl, g1⟩
    go_wp2
    go_ret
    have hp := HAP.out
    simp only [if_true] at hp
    rw [hp]
    exact ⟨rfl, Left.same HH.out g1⟩
  · have he : (str f).toList.isEmpty = false := by rw [ByteArray.toList_eq]; show f.toArray.toList.isEmpty = false; simpa using hnil
    have he2 : ¬ (str f).toList = [] := by rw [ByteArray.toList_eq]; show ¬ f.toArray.toList = []; simpa using hnil
    have HNIL := Lib.hid hnil
    have hfs : (str f).size = f.length := rfl
    have hwr := fun w1 (g1 : Ext w w1) => disk_write (HH.out.ext g1) HG.out name (str f) at_ (by omega)
    have hgw := HG.out.write name (str f) at_ (by omega) (by omega)
    obtain ⟨⟨d1, e1⟩, hd1⟩ : ∃ z, DK.write d name at_ (str f) = z := ⟨_, rfl⟩
    rw [hd1] at hwr hgw
    have hap2 : r = if e1 ≠ 0 then (d1, e1) else DK.syncD d1 := by rw [HAP.out, if_neg hnil, hd1]
    have HWR := Lib.hid hwr
    have HGW := Lib.hid hgw
    have HA2 := Lib.hid hap2
    clear hwr hgw hd1 hap2 HAP hnil
    go_enter Try.func16, Try.ntmps16
    go_wp2_with fail
    refine HFR.out.mono ?_
    rintro e w1 ⟨rfl, g1⟩
    have G1 := Lib.hid g1
    clear g1
    go_wp2_with fail
    refine (HWR.out _ G1.out).mono ?_
    rintro e w2 ⟨rfl, hl⟩
    obtain ⟨S1, hD1, hT1, hGr1⟩ := Left.from_ G1.out hl
    have HD1 := Lib.hid hD1
    have HT1 := Lib.hid hT1
    have HGr1 := Lib.hid hGr1
    clear hl hD1 hT1 hGr1
    by_cases h0 : e1 = 0
    · have hsy := disk_sync HD1.out HGW.out.fuse
      have ha : r = DK.syncD d1 := by rw [HA2.out, if_neg (by rw [h0]; simp)]
      subst h0
      obtain ⟨⟨d2, e2⟩, hd2⟩ : ∃ z, DK.syncD d1 = z := ⟨_, rfl⟩
      rw [hd2] at hsy ha
      have HSY := Lib.hid hsy
      subst ha
      clear hsy hd2
      go_wp2_with fail
      refine HSY.out.mono ?_
      rintro e w3 ⟨rfl, hl⟩
      have HLL := Lib.hid hl
      clear hl
      go_wp2
      go_ret
      exact ⟨rfl, Left.trans HT1.out HGr1.out HLL.out⟩
    · have h1 : (e1 != 0) = true := by rw [bne_iff_ne]; exact h0
      have ha : r = (d1, e1) := by rw [HA2.out, if_pos h0]
      subst ha
      go_wp2
      go_ret
      exact ⟨rfl, S1, HD1.out, HT1.out, HGr1.out⟩

set_option maxRecDepth 100000 in
set_option maxHeartbeats 1000000 in
theorem wal_load {w : World} {S : Nat → Prop} {B : Nat} {d : DK.D} (h : DiskAt w S B d) (hl : d.dead = false) (name : ByteArray) (hn : name.size ≤ 1000000) (hs : (DK.get d.now name).size ≤ 1000000) (hno : DK.has d.now name = false → DK.get d.now name = ByteArray.empty) :
    Calls Try.prog 17 #[.pointer (some ⟨B, 0, none⟩), .string name] w fun e w' => ∃ v, e = .returned (.tuple #[v, .int .i64 ((Wal.scan (DK.get d.now name).data.toList 0).2 : Int)]) ∧
      w'.ownsRow w.heap.size 9 1 v (Wal.scan (DK.get d.now name).data.toList 0).1.length (texts (Wal.scan (DK.get d.now name).data.toList 0).1) ∧ Ext w w' := by
  have hrd := disk_read h name (by omega)
  have hr : DK.read d name = (DK.get d.now name, DK.has d.now name) := by unfold DK.read; rw [if_neg (by rw [hl]; simp)]
  rw [hr] at hrd
  clear hr h hl
  generalize DK.get d.now name = b at *
  cases hh : DK.has d.now name with
  | false =>
    have hb := hno hh
    subst hb
    rw [hh] at hrd
    have HR := Lib.hid hrd
    have hsc : Wal.scan ByteArray.empty.data.toList 0 = ([], 0) := Wal.scan_none (Wal.scan1_nil 0)
    rw [hsc]
    clear hrd hsc hno
    go_enter Try.func17, Try.ntmps17
    go_wp2_with fail
    refine HR.out.mono ?_
    rintro e w1 ⟨rfl, g1⟩
    go_wp2
    go_ret2
    exact ⟨_, rfl, World.ownsRow_nil _ _ _ _, g1⟩
  | true =>
    rw [hh] at hrd
    have HR := Lib.hid hrd
    have hsc := fun w1 (g1 : Ext w w1) => scan_any b w1 hs
    have HSC := Lib.hid hsc
    obtain ⟨L, hL⟩ : ∃ L, Wal.scan b.data.toList 0 = L := ⟨_, rfl⟩
    rw [hL] at HSC ⊢
    clear hrd hsc hno hL
    go_enter Try.func17, Try.ntmps17
    go_wp2_with fail
    refine HR.out.mono ?_
    rintro e w1 ⟨rfl, g1⟩
    go_wp2_with fail
    refine (HSC.out _ g1).mono ?_
    rintro e w2 ⟨v, rfl, hrow, g2⟩
    obtain ⟨p, c, rfl⟩ := row_slice hrow
    have HROW := Lib.hid (row_base hrow g1.size)
    have HG := Lib.hid (g1.trans g2)
    clear hrow g2
    go_wp2
    go_ret2
    exact ⟨_, rfl, HROW.out, HG.out⟩
end Go.Proofs.Ythkccaifabpleaa
