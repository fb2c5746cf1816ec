/- What the document's Put answers: the same bytes. -/
import Derived.Test.YthkccaifabpleaaChecked
import Derived.Test.YthkccaifabpleaaBytes
import Derived.Test.YthkccaifabpleaaCountPlain
import Derived.Deep.RegionWith
import Derived.Deep.RegionHeld3
import Derived.BigRegion
namespace Go.Proofs.Ythkccaifabpleaa
open Go.RowKit

/-- One cell of a byte, made a text. -/
theorem conv1 (x : Int) (hx : 0 ≤ x ∧ x < 256) (W : World) (b : Nat) (hc : W.cell? ⟨b, 0, none⟩ = some (.int .u8 x)) :
    (convert 67 9 (.slice (some ⟨b, 0, none⟩) 1 1)).run Try.prog W = .ok (.string ⟨#[UInt8.ofNat x.toNat]⟩) W :=
  run_convert_bytes_back _ _ _ 5 ⟨b, 0, none⟩ 1 [UInt8.ofNat x.toNat] Try.underlying67 Try.underlying5 Try.underlying9 fun j hj => by
    obtain rfl : j = 0 := by simpa using hj
    rw [show (⟨b, 0, none⟩ : Addr).add 0 = ⟨b, 0, none⟩ from by simp [Addr.add], hc]
    simp only [List.getElem_cons_zero]
    rw [UInt8.toNat_ofNat']
    congr 2
    omega

theorem concat1 (b : UInt8) (p : List UInt8) : (⟨#[b]⟩ : ByteArray) ++ ⟨p.toArray⟩ = ⟨(b :: p).toArray⟩ := by
  apply ByteArray.ext
  rw [ByteArray.data_append]
  simp

theorem refPut_no (n : Int) (w : World) (h : ¬ (0 ≤ n ∧ n ≤ 1073741824)) :
    Calls Try.prog 23 #[.int .i64 n] w fun e w' => e = .returned (.string ⟨#[]⟩) ∧ Ext w w' := by
  by_cases h1 : n < 0
  · clear h
    go_enter Try.func23, Try.ntmps23
    go_wp2
    go_ret
    exact ⟨rfl, Ext.refl _⟩
  · have h2 : 1073741824 < n := by omega
    clear h
    go_enter Try.func23, Try.ntmps23
    go_wp2
    go_ret
    exact ⟨rfl, Ext.refl _⟩

set_option maxRecDepth 100000 in
theorem refPut_small (n : Nat) (w : World) (h : n < 128) :
    Calls Try.prog 23 #[.int .i64 n] w fun e w' => e = .returned (.string ⟨(Count.put n).toArray⟩) ∧ Ext w w' := by
  have h1 : ¬ ((n : Int) < 0) := by omega
  have h2 : ¬ (1073741824 < (n : Int)) := by omega
  have hcv := conv1 (n : Int) (by omega) (w.alloc (.cells #[.int .u8 n] 5)) w.heap.size (by simp)
  go_enter Try.func23, Try.ntmps23
  go_wp2
  go_ret
  exact ⟨by rw [Count.put_small h]; rfl, (Ext.refl _).alloc _⟩

set_option maxRecDepth 100000 in
set_option maxHeartbeats 1000000 in
theorem refPut_great (n : Nat) (w : World) (h : n ≤ 1073741824) (h128 : ¬ n < 128)
    (ih : ∀ w, Calls Try.prog 23 #[.int .i64 ((n : Int) / 128)] w fun e w' => e = .returned (.string ⟨(Count.put (n / 128)).toArray⟩) ∧ Ext w w') :
    Calls Try.prog 23 #[.int .i64 n] w fun e w' => e = .returned (.string ⟨(Count.put n).toArray⟩) ∧ Ext w w' := by
  have h1 : ¬ ((n : Int) < 0) := by omega
  have h2 : ¬ (1073741824 < (n : Int)) := by omega
  have IH := Lib.hid ih
  clear ih
  have w0 : (n : Int).tmod 128 = (n : Int) % 128 := Int.tmod_eq_emod_of_nonneg (by omega)
  have w1 : IntKind.i64.wrap ((n : Int) / 128) = (n : Int) / 128 := IntWalk.i64_in _ (by omega)
  have w2 : IntKind.i64.wrap ((n : Int) % 128 + 128) = (n : Int) % 128 + 128 := IntWalk.i64_in _ (by omega)
  have w3 : IntKind.u8.wrap ((n : Int) % 128 + 128) = (n : Int) % 128 + 128 := by rw [IntKind.wrap_u8]; omega
  have hl5 := Count.put_length5 (n := n / 128) (by omega)
  generalize hP : Count.put (n / 128) = p at IH hl5
  have HP := Lib.hid hP
  clear hP
  have hcv := conv1 ((n : Int) % 128 + 128) (by omega)
  rw [show ((n : Int) % 128 + 128).toNat = n % 128 + 128 from by omega] at hcv
  generalize hC : UInt8.ofNat (n % 128 + 128) = c at hcv
  have HC := Lib.hid hC
  clear hC
  go_enter Try.func23, Try.ntmps23
  go_wp2_with fail
  go_region_with (go_at_call 23; refine (IH.out _).mono ?_; rintro e wx ⟨rfl, hx⟩; have hk := fun (b : Nat) (hb : b < _) => Below.cell hx (p := ⟨b, 0, none⟩) hb)
  all_goals go_wp2
  all_goals go_ret
  all_goals rw [Count.put_great h128, HP.out, HC.out]
  · exact ⟨congrArg (fun s => Ending.returned (Value.string s)) (concat1 _ _), ((Ext.refl _).alloc _).drew.trans hx⟩
  · exact ⟨congrArg (fun s => Ending.returned (Value.string s)) (concat1 _ _), ((Ext.refl _).alloc _).drew.trans hx⟩
  · exact ⟨congrArg (fun s => Ending.returned (Value.string s)) (concat1 _ _), ((Ext.refl _).drew.trans hx).alloc _⟩

theorem refPut_yes : ∀ (n : Nat) (w : World), n ≤ 1073741824 →
    Calls Try.prog 23 #[.int .i64 n] w fun e w' => e = .returned (.string ⟨(Count.put n).toArray⟩) ∧ Ext w w' := by
  intro n
  induction n using Nat.strongRecOn with
  | _ n ih =>
    intro w h
    by_cases h128 : n < 128
    · exact refPut_small n w h128
    · refine refPut_great n w h h128 fun w => ?_
      have := ih (n / 128) (by omega) w (by omega)
      rw [show (n : Int) / 128 = ((n / 128 : Nat) : Int) from by omega]
      exact this

/-- What the document's Put answers. -/
theorem refPut_any (n : Int) (w : World) :
    Calls Try.prog 23 #[.int .i64 n] w fun e w' => e = .returned (.string ⟨(Count.putL n).toArray⟩) ∧ Ext w w' := by
  by_cases h : 0 ≤ n ∧ n ≤ 1073741824
  · obtain ⟨m, rfl⟩ := Int.eq_ofNat_of_zero_le h.1
    have := refPut_yes m w (by omega)
    unfold Count.putL
    rw [if_pos h]
    exact this
  · have := refPut_no n w h
    unfold Count.putL
    rw [if_neg h]
    exact this

end Go.Proofs.Ythkccaifabpleaa
