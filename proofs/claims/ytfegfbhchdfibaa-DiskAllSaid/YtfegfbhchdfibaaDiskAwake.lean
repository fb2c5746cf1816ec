/- Chapter 22's example holds; what none answers. -/
import Derived.Test.YtfegfbhchdfibaaDiskCrash
import Derived.Test.YtfegfbhchdfibaaDiskGood
import Derived.Test.YtfegfbhchdfibaaDiskUse
namespace Go.Proofs.Ytfegfbhchdfibaa
open Go.RowKit

namespace DK
def sF : ByteArray := ⟨#[102]⟩
def sAB : ByteArray := ⟨#[97, 98]⟩
def sCD : ByteArray := ⟨#[99, 100]⟩
def sABC : ByteArray := ⟨#[97, 98, 99]⟩
def sABCD : ByteArray := ⟨#[97, 98, 99, 100]⟩
theorem name_f : nameB sF = true := (nameB_iff sF).2 ⟨by rw [ByteArray.toList_eq]; decide, by decide, by rw [ByteArray.toList_eq]; decide, by rw [ByteArray.toList_eq]; decide, fun i h => by
  have h1 : i < 1 := h
  have : i = 0 := by omega
  subst this
  rfl⟩
theorem may_f : mayE false [sF] = 0 := mayE_ok fun i h => by
  have : i = 0 := by simpa using h
  subst this
  show okN sF = true
  unfold okN
  rw [name_f]
  decide
def e1 : D := ⟨4, [], [(sF, sAB)], [.write sF 0 sAB], false, false, 0⟩
def e2 : D := ⟨4, [(sF, sAB)], [(sF, sAB)], [], false, false, 0⟩
def e3 : D := ⟨4, [(sF, sAB)], [(sF, sABCD)], [.write sF 2 sCD], false, false, 0⟩
def e4 : D := ⟨4, [(sF, sABC)], [(sF, sABC)], [], false, false, 0⟩
theorem ex_do1 : doS [] (.write sF 0 sAB) = [(sF, sAB)] := by decide
theorem ex_do3 : doS [(sF, sAB)] (.write sF 2 sCD) = [(sF, sABCD)] := by decide
theorem ex_torn : doS [(sF, sAB)] (.write sF 2 (sCD.extract 0 (min 1 sCD.size))) = [(sF, sABC)] := by decide
theorem ex_w1 : write (new 4) sF 0 sAB = (e1, 0) := by
  have hd : doS (new 4).now (.write sF (0 : Int).toNat sAB) = [(sF, sAB)] := ex_do1
  have hm : mayE (new 4).dead [sF] = 0 := may_f
  unfold write
  rw [hm, if_neg (by simp), if_neg (by decide), hd, if_neg (by decide)]
  unfold took
  have hd2 : doS (new 4).now (.write sF (0 : Int).toNat sAB) = [(sF, sAB)] := ex_do1
  rw [hd2]
  rfl
theorem ex_s : syncD e1 = (e2, 0) := rfl
theorem ex_w2 : write e2 sF 2 sCD = (e3, 0) := by
  have hd : doS e2.now (.write sF (2 : Int).toNat sCD) = [(sF, sABCD)] := ex_do3
  have hm : mayE e2.dead [sF] = 0 := may_f
  unfold write
  rw [hm, if_neg (by simp), if_neg (by decide), hd, if_neg (by decide)]
  unfold took
  rw [hd]
  rfl
theorem ex_c : crash e3 0 1 = e4 := by
  have hl : left e3 0 1 = [(sF, sABC)] := by
    show doS [(sF, sAB)] (.write sF 2 (sCD.extract 0 (min 1 sCD.size))) = _
    exact ex_torn
  unfold crash
  rw [hl]
  rfl
theorem ex_r : read e4 sF = (sABC, true) := by
  unfold read
  rw [if_neg (by decide)]
  have h1 : get e4.now sF = sABC := by decide
  have h2 : has e4.now sF = true := by decide
  rw [h1, h2]
theorem ex_ok1 : okS (new 4).now (.write sF 0 sAB) := ⟨by decide, by decide, by decide⟩
theorem ex_ok3 : okS e2.now (.write sF 2 sCD) := ⟨by decide, by decide, by decide⟩
end DK

theorem ex_g0 : DK.Good 10 (DK.new 4) := DK.new_good 10 (by omega)
theorem ex_g1 : DK.Good 100 DK.e1 := by
  have := ex_g0.write DK.sF DK.sAB 0 (by decide) (by decide)
  rw [DK.ex_w1] at this
  exact this.mono (by decide)
theorem ex_g2 : DK.Good 100 DK.e2 := by
  have := ex_g1.syncD
  rw [DK.ex_s] at this
  exact this
theorem ex_g3 : DK.Good 1000 DK.e3 := by
  have := ex_g2.write DK.sF DK.sCD 2 (by decide) (by decide)
  rw [DK.ex_w2] at this
  exact this.mono (by decide)

set_option maxRecDepth 100000 in
set_option maxHeartbeats 1000000 in
theorem disk_awake (w : World) : Calls Try.prog 8 #[] w fun e w' => e = .returned (.bool true) ∧ Ext w w' := by
  have HN := Lib.hid (disk_new 4 (by omega) (by omega) w)
  go_enter Try.func8, Try.ntmps8
  go_wp2_with fail
  refine HN.out.mono ?_
  rintro e w1 ⟨B, S1, rfl, hD, hx, hS⟩
  have H1 : Hid (Held w w1 S1 B (DK.new 4)) := Lib.hid ⟨hD, hx, hS⟩
  have hw1 := disk_write hD ex_g0 DK.sF DK.sAB 0 (by decide)
  rw [DK.ex_w1] at hw1
  have HW1 := Lib.hid hw1
  clear hD hx hS hw1
  go_wp2_with fail
  refine HW1.out.mono ?_
  rintro e w2 ⟨rfl, hl⟩
  obtain ⟨S2, hh, _, _⟩ := H1.out.next hl
  have H2 := Lib.hid hh
  have hw2 := disk_sync hh.disk ex_g1.fuse
  rw [DK.ex_s] at hw2
  have HW2 := Lib.hid hw2
  clear hl hh hw2
  go_wp2_with fail
  refine HW2.out.mono ?_
  rintro e w3 ⟨rfl, hl⟩
  obtain ⟨S3, hh, _, _⟩ := H2.out.next hl
  have H3 := Lib.hid hh
  have hw3 := disk_write hh.disk ex_g2 DK.sF DK.sCD 2 (by decide)
  rw [DK.ex_w2] at hw3
  have HW3 := Lib.hid hw3
  clear hl hh hw3
  go_wp2_with fail
  refine HW3.out.mono ?_
  rintro e w4 ⟨rfl, hl⟩
  obtain ⟨S4, hh, _, _⟩ := H3.out.next hl
  have H4 := Lib.hid hh
  have hw4 := disk_crash hh.disk ex_g3 (by decide) 0 1
  rw [DK.ex_c] at hw4
  have HW4 := Lib.hid hw4
  clear hl hh hw4
  go_wp2_with fail
  refine HW4.out.mono ?_
  rintro e w5 ⟨rfl, hl⟩
  obtain ⟨S5, hh, _, _⟩ := H4.out.next hl
  have H5 := Lib.hid hh
  have hw5 := disk_read hh.disk DK.sF (by decide)
  rw [DK.ex_r] at hw5
  have HW5 := Lib.hid hw5
  clear hl hh hw5
  go_wp2_with fail
  refine HW5.out.mono ?_
  rintro e w6 ⟨rfl, hx⟩
  have hh := H5.out.more hx
  have H6 := Lib.hid hh
  have HW6 := Lib.hid (disk_pending hh.disk)
  have hs : (DK.sABC.toList == [97, 98, 99]) = true := by rw [ByteArray.toList_eq]; decide
  clear hx hh
  go_wp2_with fail
  refine HW6.out.mono ?_
  rintro e w7 ⟨rfl, rfl⟩
  go_wp2
  go_ret
  exact ⟨rfl, H6.out.ext⟩
end Go.Proofs.Ytfegfbhchdfibaa
