/- What the document's Count answers: how many events are of a kind and of an error. -/
import Derived.Test.YtmdeepdediafbaaTallyPlain
namespace Go.Proofs.Ytmdeepdediafbaa
open Go.RowKit

theorem isOf_yes {kind err : Int} {e : Ev} (h1 : kind < 0 ∨ e.kind = kind) (h2 : err < 0 ∨ e.err = err) : isOf kind err e = true := decide_eq_true ⟨h1, h2⟩
theorem isOf_no {kind err : Int} {e : Ev} (h : ¬ ((kind < 0 ∨ e.kind = kind) ∧ (err < 0 ∨ e.err = err))) : isOf kind err e = false := decide_eq_false h

set_option maxRecDepth 100000 in
theorem ref_count_nil (p : Option Addr) (c : Nat) (kind err : Int) (w : World) :
    Calls Try.prog 9 #[.slice p 0 c, .int .i64 kind, .int .i64 err] w fun e w' => e = .returned (.int .i64 0) ∧ w = w' := by
  go_enter Try.func9, Try.ntmps9
  go_wp2
  refine wp_loop_rounds 1 ?_
  rw [rounds_succ]
  go_wp2
  go_ret
  exact ⟨rfl, rfl⟩

set_option maxRecDepth 100000 in
set_option maxHeartbeats 4000000 in
theorem ref_count_some (b off n c : Nat) (l : List Ev) (kind err : Int) (w : World) (hn : l.length = n) (hm : n ≤ 400) (hl : EvsAt w b off l) :
    Calls Try.prog 9 #[.slice (some ⟨b, off, none⟩) n c, .int .i64 kind, .int .i64 err] w fun e w' => e = .returned (.int .i64 (cntOf kind err l : Nat)) ∧ w = w' := by
  have HL := Lib.hid hl
  have HN := Lib.hid hn
  clear hl hn
  go_enter Try.func9, Try.ntmps9
  go_wp2
  go_loopw [7, 8] (fun m i wr => ∃ (k : Nat), k ≤ n ∧ i = .int .i64 k ∧ m = .int .i64 (cntOf kind err (l.take k) : Nat) ∧ w = wr) (fun _ i _ => n - (intOf i).toNat)
  case atStart => exact ⟨0, by omega, rfl, by rw [List.take_zero]; rfl, rfl⟩
  case round =>
    obtain ⟨k, hk, rfl, rfl, rfl⟩ := hrel
    by_cases hlt : k < n
    · have hkl : k < l.length := by rw [HN.out]; exact hlt
      have hr := HL.out k hkl
      have hc := cntOf_next kind err l k hkl
      have hle := cntOf_le kind err (l.take k)
      rw [List.length_take] at hle
      generalize l[k] = e at *
      have h1 := hr 1 (.int .i64 e.kind) rfl
      have h9 := hr 9 (.int .i64 e.err) rfl
      have HC := Lib.hid hc
      generalize cntOf kind err (l.take k) = m at *
      have hmm : (m : Int) ≤ 400 := by omega
      clear hr hc hle HL
      have hk3 : kind < 0 ∨ (0 ≤ kind ∧ e.kind = kind) ∨ (0 ≤ kind ∧ e.kind ≠ kind) := by omega
      have he3 : err < 0 ∨ (0 ≤ err ∧ e.err = err) ∨ (0 ≤ err ∧ e.err ≠ err) := by omega
      rcases hk3 with hk1 | ⟨hk1, hk2⟩ | ⟨hk1, hk2⟩
      · have d1 : decide (kind < 0) = true := decide_eq_true hk1
        rcases he3 with he1 | ⟨he1, he2⟩ | ⟨he1, he2⟩
        · have d2 : decide (err < 0) = true := decide_eq_true he1
          have HI := Lib.hid (isOf_yes (e := e) (.inl hk1) (.inl he1))
          go_wp2
          go_roundw
          case rel => exact ⟨k + 1, by omega, by go_num, by rw [HC.out, HI.out]; go_num, trivial⟩
          case measure => simp [intOf]; omega
        · have d2 : decide (err < 0) = false := decide_eq_false (by omega)
          have d3 : (e.err == err) = true := by rw [beq_iff_eq]; exact he2
          have HI := Lib.hid (isOf_yes (e := e) (.inl hk1) (.inr he2))
          clear he2
          go_wp2
          go_roundw
          case rel => exact ⟨k + 1, by omega, by go_num, by rw [HC.out, HI.out]; go_num, trivial⟩
          case measure => simp [intOf]; omega
        · have d2 : decide (err < 0) = false := decide_eq_false (by omega)
          have d3 : (e.err == err) = false := by rw [beq_eq_false_iff_ne]; exact he2
          have HI := Lib.hid (isOf_no (kind := kind) (err := err) (e := e) (by omega))
          clear he2
          go_wp2
          go_roundw
          case rel => exact ⟨k + 1, by omega, by go_num, by rw [HC.out, HI.out]; rfl, trivial⟩
          case measure => simp [intOf]; omega
      · have d1 : decide (kind < 0) = false := decide_eq_false (by omega)
        have d4 : (e.kind == kind) = true := by rw [beq_iff_eq]; exact hk2
        rcases he3 with he1 | ⟨he1, he2⟩ | ⟨he1, he2⟩
        · have d2 : decide (err < 0) = true := decide_eq_true he1
          have HI := Lib.hid (isOf_yes (e := e) (.inr hk2) (.inl he1))
          clear hk2
          go_wp2
          go_roundw
          case rel => exact ⟨k + 1, by omega, by go_num, by rw [HC.out, HI.out]; go_num, trivial⟩
          case measure => simp [intOf]; omega
        · have d2 : decide (err < 0) = false := decide_eq_false (by omega)
          have d3 : (e.err == err) = true := by rw [beq_iff_eq]; exact he2
          have HI := Lib.hid (isOf_yes (e := e) (.inr hk2) (.inr he2))
          clear he2 hk2
          go_wp2
          go_roundw
          case rel => exact ⟨k + 1, by omega, by go_num, by rw [HC.out, HI.out]; go_num, trivial⟩
          case measure => simp [intOf]; omega
        · have d2 : decide (err < 0) = false := decide_eq_false (by omega)
          have d3 : (e.err == err) = false := by rw [beq_eq_false_iff_ne]; exact he2
          have HI := Lib.hid (isOf_no (kind := kind) (err := err) (e := e) (by omega))
          clear he2 hk2
          go_wp2
          go_roundw
          case rel => exact ⟨k + 1, by omega, by go_num, by rw [HC.out, HI.out]; rfl, trivial⟩
          case measure => simp [intOf]; omega
      · have d1 : decide (kind < 0) = false := decide_eq_false (by omega)
        have d4 : (e.kind == kind) = false := by rw [beq_eq_false_iff_ne]; exact hk2
        have HI := Lib.hid (isOf_no (kind := kind) (err := err) (e := e) (by omega))
        clear hk2 he3
        go_wp2
        go_roundw
        case rel => exact ⟨k + 1, by omega, by go_num, by rw [HC.out, HI.out]; rfl, trivial⟩
        case measure => simp [intOf]; omega
    · obtain rfl : k = n := by omega
      rw [List.take_of_length_le (by rw [HN.out]; omega)]
      go_wp2
      go_ret
      exact ⟨rfl, rfl⟩

/-- What Count answers. -/
theorem ref_count (p : Option Addr) (n c : Nat) (l : List Ev) (kind err : Int) (w : World) (hm : n ≤ 400) (h : Events w p n l) :
    Calls Try.prog 9 #[.slice p n c, .int .i64 kind, .int .i64 err] w fun e w' => e = .returned (.int .i64 (cntOf kind err l : Nat)) ∧ w = w' := by
  obtain ⟨h1, h2, _, h3 | ⟨b, off, rfl, h4⟩⟩ := h
  · subst h3
    obtain rfl : l = [] := List.eq_nil_of_length_eq_zero h1
    exact ref_count_nil p c kind err w
  · exact ref_count_some b off n c l kind err w h1 hm h4

end Go.Proofs.Ytmdeepdediafbaa
