/- What the program's functions on files answer: how many blocks, and bytes written. -/
import Derived.Test.YtfegfbhchdfibaaDiskMem
import Derived.BigQuiet
import Derived.Deep.RegionHeld3
import Derived.WalkSpells
import Derived.Deep.RegionLaw
namespace Go.Proofs.Ytfegfbhchdfibaa
open Go.RowKit

theorem run_min2 {P : Program} (ts : Array TypeId) (t : TypeId) (x y : Int) (w : World) : (Builtin.min_ ts t #[.int .i64 x, .int .i64 y]).run P w = .ok (.int .i64 (min x y)) w := by
  simp only [Builtin.min_, List.foldlM_cons, List.foldlM_nil, Builtin.min2, Sem.run_bind, Sem.run_pure, Result.andThen]
  rw [show (if y < x then y else x) = min x y by split <;> omega]
theorem run_max2 {P : Program} (ts : Array TypeId) (t : TypeId) (x y : Int) (w : World) : (Builtin.max_ ts t #[.int .i64 x, .int .i64 y]).run P w = .ok (.int .i64 (max x y)) w := by
  simp only [Builtin.max_, List.foldlM_cons, List.foldlM_nil, Builtin.max2, Sem.run_bind, Sem.run_pure, Result.andThen]
  rw [show (if x < y then y else x) = max x y by split <;> omega]

set_option maxRecDepth 100000 in
theorem disk_blk (n : Nat) (hn : n ≤ 4398046511104) (w : World) : Calls Try.prog 44 #[.int .i64 n] w fun e w' => e = .returned (.int .i64 (DK.blk n : Nat)) ∧ w = w' := by
  have h1 : ∀ w, (Builtin.max_ #[3, 3] 3 #[.int .i64 n, .int .i64 0]).run Try.prog w = .ok (.int .i64 n) w := fun w => by rw [run_max2, show max (n : Int) 0 = n by omega]
  have h2 : ∀ w, (Builtin.max_ #[3, 3] 3 #[.int .i64 1, .int .i64 (((n : Int) + 32 - 1).tdiv 32)]).run Try.prog w = .ok (.int .i64 (DK.blk n : Nat)) w := fun w => by
    rw [run_max2]
    unfold DK.blk
    rw [show (n : Int) + 32 - 1 = ((n + 31 : Nat) : Int) by omega, Int.tdiv_eq_ediv_of_nonneg (by omega)]
    congr 2
    omega
  have h3 : IntKind.i64.wrap ((n : Int) + 32) = (n : Int) + 32 := IntWalk.i64_in _ ⟨by omega, by omega⟩
  have h4 : IntKind.i64.wrap ((n : Int) + 32 - 1) = (n : Int) + 32 - 1 := IntWalk.i64_in _ ⟨by omega, by omega⟩
  have h5 : IntKind.i64.wrap (((n : Int) + 32 - 1).tdiv 32) = ((n : Int) + 32 - 1).tdiv 32 := by
    rw [show (n : Int) + 32 - 1 = ((n + 31 : Nat) : Int) by omega, Int.tdiv_eq_ediv_of_nonneg (by omega)]
    exact IntWalk.i64_in _ ⟨by omega, by omega⟩
  go_enter Try.func44, Try.ntmps44
  go_wp2
  go_ret
  exact ⟨rfl, rfl⟩

namespace DK
/-- The blocks of those files that have come. -/
def came (left : Lit → Bool) (m : Files) : Nat := (m.map fun p => if left (lit p.1) = true then 0 else blk p.2.size).sum
theorem came_start (m : Files) : came (Maps.has (dOf m)) m = 0 := by
  unfold came
  have : ∀ l : Files, (∀ p ∈ l, Maps.has (dOf m) (lit p.1) = true) → (l.map fun p => if Maps.has (dOf m) (lit p.1) = true then 0 else blk p.2.size).sum = 0 := by
    intro l
    induction l with
    | nil => intro _; rfl
    | cons x l ih =>
      intro h
      rw [List.map_cons, List.sum_cons, if_pos (h x (List.mem_cons_self ..)), ih fun p hp => h p (List.mem_cons_of_mem _ hp)]
  refine this m fun p hp => ?_
  rw [dOf_has]
  unfold has
  exact List.any_eq_true.2 ⟨p, hp, by simp⟩
theorem came_end (left : Lit → Bool) (m : Files) (h : ∀ l, left l = false) : came left m = blocks m := by
  unfold came blocks
  congr 1
  refine List.map_congr_left fun p _ => ?_
  rw [h]
  rfl
theorem came_next (left : Lit → Bool) (m : Files) (hp : m.Pairwise fun p q => p.1 ≠ q.1) (k c : ByteArray) (hin : (k, c) ∈ m) (hl : left (lit k) = true) :
    came (fun z => left z && !z.sameKey (lit k)) m = came left m + blk c.size := by
  induction m with
  | nil => cases hin
  | cons x m ih =>
    obtain ⟨h1, h2⟩ := List.pairwise_cons.1 hp
    unfold came at *
    rw [List.map_cons, List.sum_cons, List.map_cons, List.sum_cons]
    simp only [lit_same] at *
    by_cases hx : x.1 = k
    · have hxe : x = (k, c) := by
        rcases List.mem_cons.1 hin with h | h
        · exact h.symm
        · exact absurd hx (h1 _ h)
      subst hxe
      have hrest : ∀ l : Files, (∀ p ∈ l, p.1 ≠ k) → (l.map fun p => if (left (lit p.1) && !decide (p.1 = k)) = true then 0 else blk p.2.size).sum = (l.map fun p => if left (lit p.1) = true then 0 else blk p.2.size).sum := by
        intro l hl2
        congr 1
        refine List.map_congr_left fun p hp => ?_
        rw [decide_eq_false (hl2 p hp)]
        simp
      rw [hrest m fun p hp => fun e => h1 p hp e.symm]
      simp [hl]
      omega
    · rcases List.mem_cons.1 hin with h | h
      · exact absurd (by rw [← h]) hx
      · rw [ih h2 h, decide_eq_false hx]
        simp
        omega
theorem atKey_mem {m : Files} {k c : ByteArray} (h : ∀ z, (dOf m).atKey (lit k) z = .lit (lit c)) : (k, c) ∈ m := by
  have h0 := h .nil
  unfold dOf DataW.atKey at h0
  simp only [find_ent] at h0
  cases hf : m.find? fun p => decide (p.1 = k) with
  | none => rw [hf] at h0; cases h0
  | some p =>
    rw [hf] at h0
    have h1 := List.mem_of_find?_eq_some hf
    have h2 := List.find?_some hf
    have h3 : p.1 = k := of_decide_eq_true h2
    injection h0 with h0
    have h4 := lit_inj h0
    rw [← h3, ← h4]
    exact h1
end DK

theorem FilesAt.apart {w : World} {b : Nat} {m : DK.Files} (h : FilesAt w b m) : m.Pairwise fun p q => p.1 ≠ q.1 := by
  obtain ⟨es, he, hp⟩ := World.ownsMap.tidy h keyedS
  injection he with he
  subst he
  rw [List.pairwise_map] at hp
  exact hp.imp fun hne e => hne (by unfold DK.ent; rw [e])
set_option maxRecDepth 100000 in
theorem key_inv (key : Value) (kl : Lit) (h : keyOf Try.prog 9 key = some kl) : ∃ x, key = .string x := by
  unfold keyOf at h
  rw [Try.underlying9] at h
  unfold mapKey at h
  rw [Try.underlying9] at h
  cases key <;> simp at h
  exact ⟨_, rfl⟩
set_option maxRecDepth 100000 in
theorem key_eq {x : ByteArray} {kl : Lit} (h : keyOf Try.prog 9 (.string x) = some kl) : kl = DK.lit x := by
  unfold keyOf at h
  rw [Try.underlying9] at h
  unfold mapKey at h
  rw [Try.underlying9] at h
  simp at h
  exact h.2.symm

set_option maxRecDepth 100000 in
set_option maxHeartbeats 1000000 in
theorem files_blocks (b : Nat) (m : DK.Files) (w : World) (h : FilesAt w b m) (hs : DK.Small 1073741824 m) :
    Calls Try.prog 41 #[.map (some b)] w fun e w' => e = .returned (.int .i64 (DK.blocks m : Nat)) ∧ Ext w w' := by
  have hown : w.ownsMap Try.prog 9 fileElem b m.length (DK.dOf m) := h
  have hap := h.apart
  have hblt := h.lt
  have HAP := Lib.hid hap
  have hsum := DK.sum_le 1073741824 m (fun p hp => (hs.2 p hp).2)
  have hlen := hs.1
  have hbd : DK.blocks m ≤ 1073741824 * 1073741825 := Nat.le_trans hsum (Nat.mul_le_mul_right _ hlen)
  have hcb : ∀ left, DK.came left m ≤ DK.blocks m := fun left => by
    unfold DK.came DK.blocks
    have : ∀ l : DK.Files, (l.map fun p => if left (DK.lit p.1) = true then 0 else DK.blk p.2.size).sum ≤ (l.map fun p => DK.blk p.2.size).sum := by
      intro l
      induction l with
      | nil => exact Nat.le_refl _
      | cons x l ih =>
        rw [List.map_cons, List.sum_cons, List.map_cons, List.sum_cons]
        split <;> omega
    exact this m
  have HCB := Lib.hid hcb
  have HSM := Lib.hid hs.2
  have hst := DK.came_start m
  have HST := Lib.hid hst
  clear hap hsum hcb hst
  go_enter Try.func41, Try.ntmps41
  go_wp2_with (first | (at_range; refine wpList_range_own _ rfl _ 53 rfl 9 59 keyedS Try.underlying53 fileElem b m.length (DK.dOf m) rfl hown ?_; intro w0 hrg0 hg0 hs0) | go_in)
  go_frame
  generalize hr : w.heap.size = r at *
  go_loopw [3] (fun acc wr => ∃ (left : Lit → Bool) (cnt : Nat), wr.ranges Try.prog 9 fileElem b r m.length (DK.dOf m) left cnt ∧ acc = .int .i64 (DK.came left m : Nat) ∧ Ext w wr) (fun _ wr => wr.rangeLeft b r)
  case atStart => exact ⟨_, _, hrg0, by rw [HST.out]; rfl, ext_grown0 (Ext.refl _) hg0⟩
  case round =>
    obtain ⟨left, cnt, hrg, rfl, hx⟩ := hrel
    go_wp2_with (first | (at_next; refine wpList_next_ranges _ rfl _ rfl 9 keyedS fileElem Value.string (fun s => .agg #[.string s]) key_inv (fun v y hv => by obtain ⟨s, rfl, _⟩ := fileElem_inv hv; exact ⟨s, rfl⟩) b r m.length _ _ _ rfl hrg ?_ ?_) | go_in)
    · intro hc0 hl0
      go_wp2
      go_ret
      exact ⟨by rw [← DK.came_end left m hl0]; rfl, hx⟩
    · intro x c kl y ps w1 cnt1 hkx hlx hcx hat hrg1 hlt hg1 hs1 hen
      obtain ⟨c', e1, e2⟩ := fileElem_inv hcx
      unfold fileV at e1
      obtain rfl : c = c' := by simpa using e1
      obtain rfl := key_eq hkx
      have hy : y = .lit (DK.lit c) := by simp only [Prod.mk.injEq] at e2; exact e2.1
      subst hy
      have hin := DK.atKey_mem hat
      have hnx := DK.came_next left m HAP.out x c hin hlx
      have hle := HCB.out (fun z => left z && !z.sameKey (DK.lit x))
      have hcs := (HSM.out _ hin).2
      simp only at hcs
      have hx1 : Ext w w1 := hx.grown hg1 (by intro j e; injection e with e; omega)
      have hx2 := hx1.alloc (.cells #[.string c] 59)
      have hrg2 := hrg1.alloc (.cells #[.string c] 59)
      have hc0 : (w1.alloc (.cells #[.string c] 59)).cell? ⟨w1.heap.size, 0, none⟩ = some (.string c) := alloc_cell w1 _ _ 0
      have HB := Lib.hid (disk_blk c.size (by omega) (w1.alloc (.cells #[.string c] 59)))
      have h0 : (0 : Int) ≤ (DK.came left m : Nat) := by omega
      have h1 : ((DK.came left m : Nat) : Int) + (DK.blk c.size : Nat) < 1152921505680588801 := by omega
      have HNX := Lib.hid hnx
      have HLE := Lib.hid hrg.left_eq
      have HRG := Lib.hid hrg2
      generalize DK.blk c.size = z at *
      generalize DK.came left m = a at *
      have hz0 : (0 : Int) ≤ z := by omega
      clear hnx hle e1 e2 hkx hcx hat hrg1 hin hrg2 hrg
      go_wp2_with fail
      refine HB.out.mono ?_
      rintro e w3 ⟨rfl, rfl⟩
      go_wp2
      go_roundw
      case rel => exact ⟨_, _, HRG.out, by rw [HNX.out]; first | rfl | go_num, hx2⟩
      case measure => rw [HRG.out.left_eq, HLE.out]; exact hlt
end Go.Proofs.Ytfegfbhchdfibaa
