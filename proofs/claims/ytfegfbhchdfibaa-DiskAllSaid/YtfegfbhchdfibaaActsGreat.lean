/- Which lists of acts are great. -/
import Derived.Test.YtfegfbhchdfibaaActs
import Derived.Test.YtfegfbhchdfibaaQuietG
namespace Go.Proofs.Ytfegfbhchdfibaa
open Go.RowKit

/-- How many bytes the first acts bring. -/
def load (l : List ActV) (k : Nat) : Nat := ((l.take k).map fun y => y.s.size + y.name.size + y.to_.size).sum
theorem load_zero (l : List ActV) : load l 0 = 0 := rfl
theorem load_next (l : List ActV) (k : Nat) (h : k < l.length) : load l (k + 1) = load l k + (l[k].s.size + l[k].name.size + l[k].to_.size) := by
  unfold load
  rw [List.take_succ_eq_append_getElem h, List.map_append, List.sum_append]
  simp
theorem load_le (l : List ActV) (k : Nat) (h : k ≤ l.length) : load l k ≤ load l l.length := by
  obtain ⟨j, hj⟩ : ∃ j, l.length = k + j := ⟨l.length - k, by omega⟩
  have : ∀ j, k + j ≤ l.length → load l k ≤ load l (k + j) := by
    intro j
    induction j with
    | zero => intro _; exact Nat.le_refl _
    | succ j ih =>
      intro hj
      have h1 := ih (by omega)
      have h2 := load_next l (k + j) (by omega)
      have : k + (j + 1) = k + j + 1 := rfl
      rw [this]
      omega
  rw [hj]
  exact this j (by omega)
def SmallA (l : List ActV) : Prop := l.length ≤ 60 ∧ load l l.length ≤ 20000

set_option maxRecDepth 100000 in
set_option maxHeartbeats 1000000 in
theorem great_acts (p : Option Addr) (n c : Nat) (l : List ActV) (w : World) (hx : ActsW w p n l) (hn : n ≤ maxLen) (hz : ∀ y ∈ l, y.Sized) :
    Calls Try.prog 7 #[.slice p n c] w fun e w' => ∃ r, e = .returned (.bool r) ∧ Ext w w' ∧ (r = false → SmallA l) := by
  obtain ⟨x1, x4⟩ := hx
  unfold maxLen at hn
  have HX : Hid (n = 0 ∨ ∃ b off, p = some ⟨b, off, none⟩ ∧ ActsAt w b off l) := x4
  have H3 : Hid (∀ y ∈ l, y.Sized) := hz
  clear x4 hz
  go_enter Try.func7, Try.ntmps7
  go_wp2
  go_loopw [3, 4] (fun s i wr => ∃ k m : Nat, k ≤ n ∧ k ≤ 60 ∧ m ≤ 20000 ∧ i = .int .i64 k ∧ s = .int .i64 m ∧ m = load l k ∧ Ext w wr) (fun _ i _ => n - (intOf i).toNat)
  case atStart => exact ⟨0, 0, by omega, by omega, by omega, rfl, rfl, rfl, Ext.refl _⟩
  case round =>
    obtain ⟨k, m, hk, hk60, hm2, rfl, rfl, hm, he⟩ := hrel
    by_cases hlt : k < n
    · have hlk : k < l.length := by omega
      have hms := H3.out l[k] (List.getElem_mem hlk)
      obtain ⟨b, off, rfl, hs⟩ : ∃ b off, p = some ⟨b, off, none⟩ ∧ ActsAt w b off l := by
        rcases HX.out with h | h
        · omega
        · exact h
      obtain ⟨_, h1, h2, _, _, h3⟩ := (hs.ext he).cs hlk
      have hnext := load_next l k hlk
      generalize l[k] = s at h1 h2 h3 hms hnext
      obtain ⟨z1, z2, z3⟩ := hms
      generalize s.name = s1 at *
      generalize s.to_ = s2 at *
      generalize s.s = s3 at *
      rw [← hm] at hnext
      have HN := Lib.hid hnext
      clear hnext hm hs
      by_cases hsum : m + (s3.size + s1.size + s2.size) ≤ 20000
      · by_cases h60 : k < 60
        · have t1 : decide ((60 : Int) ≤ (k : Int)) = false := decide_eq_false (by omega)
          go_wp2
          go_quiet (fail)
          go_wp2
          go_roundw
          case rel => exact ⟨k + 1, m + (s3.size + s1.size + s2.size), by omega, by omega, by omega, by go_num, by go_num, HN.out.symm, he.drewN _⟩
          case measure => simp [intOf]; omega
        · obtain rfl : k = 60 := by omega
          go_wp2
          go_quiet (fail)
          go_wp2
          go_ret
          exact ⟨_, rfl, he.drewN _, fun h => by cases h⟩
      · by_cases h60 : k < 60
        · have t1 : decide ((60 : Int) ≤ (k : Int)) = false := decide_eq_false (by omega)
          go_wp2
          go_quiet (fail)
          go_wp2
          go_ret
          exact ⟨_, rfl, he.drewN _, fun h => by cases h⟩
        · obtain rfl : k = 60 := by omega
          go_wp2
          go_quiet (fail)
          go_wp2
          go_ret
          exact ⟨_, rfl, he.drewN _, fun h => by cases h⟩
    · obtain rfl : k = n := by omega
      have hsm : SmallA l := by
        refine ⟨by omega, ?_⟩
        rw [x1, ← hm]
        exact hm2
      clear hm
      go_wp2
      go_ret
      exact ⟨_, rfl, he, fun _ => hsm⟩
end Go.Proofs.Ytfegfbhchdfibaa
