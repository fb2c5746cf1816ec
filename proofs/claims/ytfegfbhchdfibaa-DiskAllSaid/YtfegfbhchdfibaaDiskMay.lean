/- Why nothing can be done with files of some names: the program's may. -/
import Derived.Test.YtfegfbhchdfibaaDiskAt
import Derived.Test.YtfegfbhchdfibaaStrs
namespace Go.Proofs.Ytfegfbhchdfibaa
open Go.RowKit

namespace DK
/-- May a disk have a file of this name? -/
noncomputable def okN (s : ByteArray) : Bool := nameB s && decide (s.size ≤ 8)
noncomputable def mayE (dead : Bool) (l : List ByteArray) : Int := if dead = true then 10 else if l.all okN = true then 0 else 1
theorem mayE_bad {l : List ByteArray} {i : Nat} (h : i < l.length) (hb : okN l[i] = false) : mayE false l = 1 := by
  unfold mayE
  rw [if_neg (by simp), if_neg]
  intro e
  rw [List.all_eq_true.1 e _ (List.getElem_mem h)] at hb
  cases hb
theorem mayE_ok {l : List ByteArray} (h : ∀ i (h : i < l.length), okN l[i] = true) : mayE false l = 0 := by
  unfold mayE
  rw [if_neg (by simp), if_pos]
  rw [List.all_eq_true]
  intro s hs
  obtain ⟨i, hi, rfl⟩ := List.mem_iff_getElem.1 hs
  exact h i hi
end DK

set_option maxRecDepth 100000 in
theorem may_nil (p : Option Addr) (n c : Nat) (w : World) : Calls Try.prog 24 #[.pointer none, .slice p n c] w fun e w' => e = .returned (.int .i64 10) ∧ w = w' := by
  go_enter Try.func24, Try.ntmps24
  go_wp2_with fail
  refine (dead_nil w).mono ?_
  rintro e w' ⟨rfl, rfl⟩
  go_wp2
  go_ret
  exact ⟨rfl, rfl⟩

set_option maxRecDepth 100000 in
theorem disk_may {w : World} {S : Nat → Prop} {B : Nat} {d : DK.D} (h : DiskAt w S B d) (b o n c : Nat) (l : List ByteArray) (hl : l.length = n) (hn : n ≤ 1000) (ht : StrsAt w b o l) (hs : ∀ s ∈ l, s.size ≤ 2199023255552) :
    Calls Try.prog 24 #[.pointer (some ⟨B, 0, none⟩), .slice (some ⟨b, o, none⟩) n c] w fun e w' => e = .returned (.int .i64 (DK.mayE d.dead l)) ∧ w = w' := by
  have hd := disk_dead h
  cases hdd : d.dead with
  | true =>
    rw [hdd] at hd
    have HD := Lib.hid hd
    have e1 : DK.mayE true l = 10 := rfl
    rw [e1]
    clear hd hdd h ht hs
    go_enter Try.func24, Try.ntmps24
    go_wp2_with fail
    refine HD.out.mono ?_
    rintro e w' ⟨rfl, rfl⟩
    go_wp2
    go_ret
    exact ⟨rfl, rfl⟩
  | false =>
    rw [hdd] at hd
    have HD := Lib.hid hd
    have HB := Lib.hid (fun i (h : i < l.length) hb => DK.mayE_bad h hb)
    have HO := Lib.hid (fun h => DK.mayE_ok (l := l) h)
    have HT := Lib.hid ht
    have HS := Lib.hid hs
    have HL := Lib.hid hl
    generalize DK.mayE false l = r at *
    clear hd hdd h ht hs hl
    go_enter Try.func24, Try.ntmps24
    go_wp2_with fail
    refine HD.out.mono ?_
    rintro e w' ⟨rfl, rfl⟩
    go_wp2
    go_loopw [11] (fun i W => ∃ k : Nat, k ≤ n ∧ i = .int .i64 k ∧ Hid (∀ j (h : j < l.length), j < k → DK.okN l[j] = true) ∧ w = W) (fun i _ => n - (intOf i).toNat)
    case atStart => exact ⟨0, by omega, rfl, Lib.hid (fun j h hj => absurd hj (Nat.not_lt_zero _)), rfl⟩
    case round =>
      obtain ⟨k, hk, rfl, HP, rfl⟩ := hrel
      by_cases hlt : k < n
      · have hkl : k < l.length := by rw [HL.out]; exact hlt
        have c1 := HT.out k hkl
        have hsz := HS.out _ (List.getElem_mem hkl)
        have hbad := HB.out k hkl
        have hgood : DK.okN l[k] = true → ∀ j (h : j < l.length), j < k + 1 → DK.okN l[j] = true := fun hg j h hj => by
          by_cases e : j < k
          · exact HP.out j h e
          · have : j = k := by omega
            subst this
            exact hg
        generalize l[k] = s at *
        have hnm := paths_name s hsz w
        have hok : DK.okN s = (DK.nameB s && decide (s.size ≤ 8)) := rfl
        obtain ⟨q, hq⟩ : ∃ q, DK.nameB s = q := ⟨_, rfl⟩
        rw [hq] at hnm hok
        have HN := Lib.hid hnm
        clear hnm hq
        cases q with
        | false =>
          have hr := hbad (by rw [hok]; rfl)
          subst hr
          clear hbad hgood hok
          go_wp2_with fail
          refine HN.out.mono ?_
          rintro e w2 ⟨rfl, rfl⟩
          go_wp2
          go_ret
          exact ⟨rfl, rfl⟩
        | true =>
          by_cases h8 : s.size ≤ 8
          · have hg := hgood (by rw [hok, decide_eq_true h8]; rfl)
            have HG := Lib.hid hg
            have h9 : decide ((8 : Int) < s.size) = false := decide_eq_false (by omega)
            clear hbad hgood hok hg
            go_wp2_with fail
            refine HN.out.mono ?_
            rintro e w2 ⟨rfl, rfl⟩
            go_wp2
            go_roundw
            case rel => exact ⟨k + 1, by omega, by go_num, HG, by first | rfl | trivial⟩
            case measure => simp [intOf]; omega
          · have hr := hbad (by rw [hok, decide_eq_false h8]; rfl)
            subst hr
            have h9 : decide ((8 : Int) < s.size) = true := decide_eq_true (by omega)
            clear hbad hgood hok
            go_wp2_with fail
            refine HN.out.mono ?_
            rintro e w2 ⟨rfl, rfl⟩
            go_wp2
            go_ret
            exact ⟨rfl, rfl⟩
      · obtain rfl : k = n := by omega
        have hr := HO.out fun i h => HP.out i h (by rw [← HL.out]; exact h)
        subst hr
        go_wp2
        go_ret
        exact ⟨rfl, rfl⟩
end Go.Proofs.Ytfegfbhchdfibaa
