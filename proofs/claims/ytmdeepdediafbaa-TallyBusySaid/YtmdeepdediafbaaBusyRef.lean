/- What the document's Busy answers. -/
import Derived.Test.YtmdeepdediafbaaBusyPlain
import Derived.Test.YtmdeepdediafbaaInts
import Derived.Test.YtmdeepdediafbaaTallyPlain
import Derived.Maps.AppendAt
import Derived.BigQuiet
namespace Go.Proofs.Ytmdeepdediafbaa
open Go.RowKit Go.Shelf

/-- The peers of events. -/
def peersOf (l : List Ev) : List Int := l.map Ev.peer
theorem peersOf_length (l : List Ev) : (peersOf l).length = l.length := List.length_map ..
theorem peersOf_at (l : List Ev) (k : Nat) (h : k < l.length) : (peersOf l)[k]'(by rw [peersOf_length]; exact h) = l[k].peer := List.getElem_map ..
theorem peersOf_take (l : List Ev) (k : Nat) : peersOf (l.take k) = (peersOf l).take k := List.map_take ..
theorem count_next (ps : List Int) (k : Nat) (h : k < ps.length) (x : Int) : (ps.take (k + 1)).count x = (ps.take k).count x + if ps[k] = x then 1 else 0 := by
  rw [List.take_add_one, List.getElem?_eq_getElem h, List.count_append]
  congr 1
  simp [List.count_cons]

set_option maxRecDepth 100000 in
theorem busy_of_nil (p : Option Addr) (c : Nat) (x : Int) (w : World) :
    Calls Try.prog 27 #[.slice p 0 c, .int .i64 x] w fun e w' => e = .returned (.int .i64 0) ∧ w = w' := by
  go_enter Try.func27, Try.ntmps27
  go_wp2
  refine wp_loop_rounds 1 ?_
  rw [rounds_succ]
  go_wp2
  go_ret
  exact ⟨rfl, rfl⟩

set_option maxRecDepth 100000 in
set_option maxHeartbeats 1000000 in
theorem busy_of_some (b off n c : Nat) (l : List Ev) (x : Int) (w : World) (hn : l.length = n) (hm : n ≤ 400) (hl : EvsAt w b off l) :
    Calls Try.prog 27 #[.slice (some ⟨b, off, none⟩) n c, .int .i64 x] w fun e w' => e = .returned (.int .i64 ((peersOf l).count x : Nat)) ∧ w = w' := by
  have HL := Lib.hid hl
  have HN := Lib.hid hn
  clear hl hn
  go_enter Try.func27, Try.ntmps27
  go_wp2
  go_loopw [5, 6] (fun m i wr => ∃ (k : Nat), k ≤ n ∧ i = .int .i64 k ∧ m = .int .i64 (((peersOf l).take k).count x : Nat) ∧ w = wr) (fun _ i _ => n - (intOf i).toNat)
  case atStart => exact ⟨0, by omega, rfl, by rw [List.take_zero]; rfl, rfl⟩
  case round =>
    obtain ⟨k, hk, rfl, rfl, rfl⟩ := hrel
    by_cases hlt : k < n
    · have hkl : k < l.length := by rw [HN.out]; exact hlt
      have hr := HL.out k hkl
      have hc := count_next (peersOf l) k (by rw [peersOf_length]; exact hkl) x
      have hle : ((peersOf l).take k).count x ≤ k := Nat.le_trans List.count_le_length (by rw [List.length_take]; omega)
      rw [peersOf_at l k hkl] at hc
      generalize l[k] = e at *
      have h2 := hr 2 (.int .i64 e.peer) rfl
      have HC := Lib.hid hc
      generalize ((peersOf l).take k).count x = m at *
      have hmm : (m : Int) ≤ 400 := by omega
      clear hr hc hle HL
      by_cases he : e.peer = x
      · have d1 : (e.peer == x) = true := by rw [beq_iff_eq]; exact he
        have HI := Lib.hid he
        clear he
        go_wp2
        go_roundw
        case rel => exact ⟨k + 1, by omega, by go_num, by rw [HC.out, if_pos HI.out]; go_num, trivial⟩
        case measure => simp [intOf]; omega
      · have d1 : (e.peer == x) = false := by rw [beq_eq_false_iff_ne]; exact he
        have HI := Lib.hid he
        clear he
        go_wp2
        go_roundw
        case rel => exact ⟨k + 1, by omega, by go_num, by rw [HC.out, if_neg HI.out]; rfl, trivial⟩
        case measure => simp [intOf]; omega
    · obtain rfl : k = n := by omega
      rw [List.take_of_length_le (by rw [peersOf_length, HN.out]; omega)]
      go_wp2
      go_ret
      exact ⟨rfl, rfl⟩

/-- How many events a peer has. -/
theorem busy_of (p : Option Addr) (n c : Nat) (l : List Ev) (x : Int) (w : World) (hm : n ≤ 400) (h : Events w p n l) :
    Calls Try.prog 27 #[.slice p n c, .int .i64 x] w fun e w' => e = .returned (.int .i64 ((peersOf l).count x : Nat)) ∧ w = w' := by
  obtain ⟨h1, h2, _, h3 | ⟨b, off, rfl, h4⟩⟩ := h
  · subst h3
    obtain rfl : l = [] := List.eq_nil_of_length_eq_zero h1
    exact busy_of_nil p c x w
  · exact busy_of_some b off n c l x w h1 hm h4

/-- The inner loop at its place k. -/
def InsInv (L : Int → Int → Bool) (p : Int) (out : List Int) (k : Nat) (next : List Int) (inn : Bool) : Prop :=
  next.length ≤ k + 1 ∧ (p ∈ out → next = out.take k ∧ (inn = true ↔ p ∈ out.take k)) ∧
  (p ∉ out → (inn = false → next = out.take k ∧ Busy.ins L p out = next ++ Busy.ins L p (out.drop k)) ∧ (inn = true → Busy.ins L p out = next ++ out.drop k))

theorem InsInv.start (L : Int → Int → Bool) (p : Int) (out : List Int) : InsInv L p out 0 [] false :=
  ⟨by simp, fun _ => ⟨by simp, by simp⟩, fun _ => ⟨fun _ => ⟨by simp, rfl⟩, fun h => by cases h⟩⟩

section
variable {L : Int → Int → Bool} {p : Int} {out next : List Int} {k : Nat}

theorem InsInv.here {inn : Bool} (h : InsInv L p out k next inn) (hk : k < out.length) (he : out[k] = p) : InsInv L p out (k + 1) (next ++ [out[k]]) true := by
  have hm : p ∈ out := he ▸ List.getElem_mem _
  obtain ⟨h1, h2, _⟩ := h
  refine ⟨by simp; omega, fun _ => ⟨by rw [(h2 hm).1, take_next out k hk], ?_⟩, fun h' => absurd hm h'⟩
  rw [take_next out k hk]
  simp [he]

theorem InsInv.on (h : InsInv L p out k next true) (hk : k < out.length) : InsInv L p out (k + 1) (next ++ [out[k]]) true := by
  obtain ⟨h1, h2, h3⟩ := h
  refine ⟨by simp; omega, fun hm => ⟨by rw [(h2 hm).1, take_next out k hk], ?_⟩, fun hm => ⟨fun h => (by cases h), fun _ => ?_⟩⟩
  · rw [take_next out k hk]
    exact ⟨fun _ => List.mem_append_left _ ((h2 hm).2.1 rfl), fun _ => rfl⟩
  · rw [(h3 hm).2 rfl, List.drop_eq_getElem_cons hk]; simp

theorem InsInv.no (h : InsInv L p out k next false) (hk : k < out.length) (he : out[k] ≠ p) (hl : p ∈ out ∨ L p out[k] = false) : InsInv L p out (k + 1) (next ++ [out[k]]) false := by
  obtain ⟨h1, h2, h3⟩ := h
  refine ⟨by simp; omega, fun hm => ⟨by rw [(h2 hm).1, take_next out k hk], ?_⟩, fun hm => ⟨fun _ => ⟨by rw [((h3 hm).1 rfl).1, take_next out k hk], ?_⟩, fun h => (by cases h)⟩⟩
  · rw [take_next out k hk]
    have := (h2 hm).2
    simp only [Bool.false_eq_true, false_iff] at this ⊢
    rw [List.mem_append, List.mem_singleton]
    exact fun h => h.elim this fun h => he h.symm
  · rw [Busy.ins_step L p out next k hk ((h3 hm).1 rfl).2, hl.resolve_left hm]; simp

theorem InsInv.put (h : InsInv L p out k next false) (hk : k < out.length) (hm : p ∉ out) (hl : L p out[k] = true) (hlen : next.length = k) : InsInv L p out (k + 1) ((next ++ [p]) ++ [out[k]]) true := by
  obtain ⟨h1, h2, h3⟩ := h
  refine ⟨by simp; omega, fun hm' => absurd hm' hm, fun _ => ⟨fun h => (by cases h), fun _ => ?_⟩⟩
  rw [Busy.ins_step L p out next k hk ((h3 hm).1 rfl).2, hl]; simp

theorem InsInv.len (h : InsInv L p out k next false) (hk : k ≤ out.length) (hm : p ∉ out) : next.length = k := by
  rw [((h.2.2 hm).1 rfl).1, List.length_take]; omega

theorem InsInv.stop (h : InsInv L p out out.length next true) : next = if p ∈ out then out else Busy.ins L p out := by
  obtain ⟨h1, h2, h3⟩ := h
  split
  · rename_i hm; rw [(h2 hm).1, List.take_length]
  · rename_i hm; rw [(h3 hm).2 rfl]; simp

theorem InsInv.last (h : InsInv L p out out.length next false) : next ++ [p] = if p ∈ out then out else Busy.ins L p out := by
  obtain ⟨h1, h2, h3⟩ := h
  split
  · rename_i hm
    have := (h2 hm).2
    rw [List.take_length] at this
    simp [hm] at this
  · rename_i hm; rw [Busy.ins_end L p out next ((h3 hm).1 rfl).2]
end

end Go.Proofs.Ytmdeepdediafbaa
