/- A new disk; Sync and Read. -/
import Derived.Test.YtfegfbhchdfibaaDiskWr
namespace Go.Proofs.Ytfegfbhchdfibaa
open Go.RowKit

set_option maxRecDepth 100000 in
theorem new_bad (n : Int) (h : n < 0 ∨ 32768 < n) (w : World) : Calls Try.prog 9 #[.int .i64 n] w fun e w' => e = .returned (.pointer none) ∧ w = w' := by
  by_cases h1 : n < 0
  · go_enter Try.func9, Try.ntmps9
    go_wp2
    go_ret
    exact ⟨rfl, rfl⟩
  · have h2 : 32768 < n := by omega
    have h3 : decide (n < 0) = false := decide_eq_false h1
    go_enter Try.func9, Try.ntmps9
    go_wp2
    go_ret
    exact ⟨rfl, rfl⟩

set_option maxRecDepth 100000 in
theorem disk_new (n : Int) (h0 : 0 ≤ n) (h1 : n ≤ 32768) (w : World) : Calls Try.prog 9 #[.int .i64 n] w fun e w' => ∃ B S, e = .returned (.pointer (some ⟨B, 0, none⟩)) ∧ DiskAt w' S B (DK.new n) ∧ Ext w w' ∧ ∀ k, S k → w.heap.size ≤ k := by
  have hmm := @run_makeMap Try.prog
  have h2 : decide (n < 0) = false := decide_eq_false (by omega)
  have h3 : decide (32768 < n) = false := decide_eq_false (by omega)
  go_enter Try.func9, Try.ntmps9
  go_wp2
  go_ret
  have e1 : (w.alloc (.map #[] 0)).heap.size = w.heap.size + 1 := World.size_alloc _ _
  have e2 : ((w.alloc (.map #[] 0)).alloc (.map #[] 0)).heap.size = w.heap.size + 2 := by rw [World.size_alloc, e1]
  have x2 := ((Ext.refl w).alloc (.map #[] 0)).alloc (.map #[] 0)
  have m1 := (FilesAt.made w).ext ((Ext.refl _).alloc (.map #[] 0))
  have m2 := FilesAt.made (w.alloc (.map #[] 0))
  rw [e1] at m2
  generalize (w.alloc (.map #[] 0)).alloc (.map #[] 0) = w2 at *
  have hx := (Ext.refl w2).alloc (.cells #[.int .i64 n, .map (some w.heap.size), .map (some (w.heap.size + 1)), .slice none 0 0, .bool false, .bool false, .int .i64 0] 56)
  refine ⟨w.heap.size + 2, fun k => k = w.heap.size ∨ k = w.heap.size + 1 ∨ k = w.heap.size + 2, by rw [← e2]; rfl, ⟨w.heap.size, w.heap.size + 1, .slice none 0 0, ?_⟩, x2.trans hx, fun k hk => by omega⟩
  constructor
  · rw [← e2]; exact heap_alloc_new w2 _
  · exact m1.ext hx
  · exact m2.ext hx
  · omega
  · exact ⟨[], rfl, World.ownsRow_nil _ _ _ _, fun i hi => absurd hi (Nat.not_lt_zero _)⟩
  · intro e; cases e
  · exact .inr (.inr rfl)
  · exact .inl rfl
  · exact .inr (.inl rfl)
  · intro g e; cases e
  · intro k hk
    rw [World.size_alloc, e2]
    omega

namespace DK
noncomputable def read (d : D) (n : ByteArray) : ByteArray × Bool := if d.dead = true then (ByteArray.empty, false) else (get d.now n, has d.now n)
def syncD (d : D) : D × Int := if d.dead = true then (d, 10) else if (burn d).dead = true then (burn d, 10) else ({ burn d with safe := d.now, todo := [] }, 0)
def used (d : D) : Int := if d.dead = true then 0 else (blocks d.now : Int)
def free (d : D) : Int := if d.dead = true then 0 else d.room - (blocks d.now : Int)
theorem Good.syncD {N : Nat} {d : D} (h : Good N d) : Good N (syncD d).1 := by
  unfold DK.syncD
  cases hd : d.dead with
  | true => exact h
  | false =>
    rw [if_neg (by simp)]
    split
    · exact h.burn hd
    · rename_i hb
      have hbn := h.burn hd
      exact ⟨burn_now d, fun i hi => absurd hi (Nat.not_lt_zero _), fun i hi => (by
        obtain rfl : i = 0 := Nat.le_zero.1 hi
        exact h.nowS), hbn.room, hbn.fuse, Nat.zero_le _⟩
theorem Good.setFuse {N : Nat} {d : D} (h : Good N d) {k : Int} (hk : k ≤ 9223372036854775807) : Good N (setFuse d k) :=
  ⟨h.now, h.steps, h.small, h.room, fun hf _ => ⟨of_decide_eq_true hf, hk⟩, h.len⟩
end DK

set_option maxRecDepth 100000 in
theorem read_nil (n : ByteArray) (w : World) : Calls Try.prog 16 #[.pointer none, .string n] w fun e w' => e = .returned (.tuple #[.string ByteArray.empty, .bool false]) ∧ w = w' := by
  go_enter Try.func16, Try.ntmps16
  go_wp2_with fail
  refine (dead_nil w).mono ?_
  rintro e w' ⟨rfl, rfl⟩
  go_wp2
  go_ret2
  exact ⟨rfl, rfl⟩

set_option maxRecDepth 100000 in
theorem disk_read {w : World} {S : Nat → Prop} {B : Nat} {d : DK.D} (h : DiskAt w S B d) (n : ByteArray) (hn : n.size ≤ 2199023255552) :
    Calls Try.prog 16 #[.pointer (some ⟨B, 0, none⟩), .string n] w fun e w' => e = .returned (.tuple #[.string (DK.read d n).1, .bool (DK.read d n).2]) ∧ Ext w w' := by
  have hd := disk_dead h
  have hr : DK.read d n = if d.dead = true then (ByteArray.empty, false) else (DK.get d.now n, DK.has d.now n) := rfl
  obtain ⟨bs, bn, v, hi⟩ := h
  cases hdd : d.dead with
  | true =>
    rw [hdd] at hd hr
    rw [if_pos rfl] at hr
    rw [hr]
    have HD := Lib.hid hd
    clear hd hr hi hdd
    go_enter Try.func16, Try.ntmps16
    go_wp2_with fail
    refine HD.out.mono ?_
    rintro e w' ⟨rfl, rfl⟩
    go_wp2
    go_ret2
    exact ⟨rfl, Ext.refl _⟩
  | false =>
    rw [hdd] at hd hr
    rw [if_neg (by simp)] at hr
    rw [hr]
    have HD := Lib.hid hd
    have c2 := hi.cells.c2
    have hlk := hi.now.look_ok n (by unfold maxLen; omega)
    generalize DK.get d.now n = was at *
    generalize DK.has d.now n = is at *
    clear hd hr hi hdd
    go_enter Try.func16, Try.ntmps16
    go_wp2_with fail
    refine HD.out.mono ?_
    rintro e w' ⟨rfl, rfl⟩
    go_wp2
    go_ret2
    exact ⟨rfl, (Ext.refl _).alloc _⟩

set_option maxRecDepth 100000 in
theorem sync_nil (w : World) : Calls Try.prog 14 #[.pointer none] w fun e w' => e = .returned (.int .i64 10) ∧ w = w' := by
  go_enter Try.func14, Try.ntmps14
  go_wp2_with fail
  refine (dead_nil w).mono ?_
  rintro e w' ⟨rfl, rfl⟩
  go_wp2
  go_ret
  exact ⟨rfl, rfl⟩

theorem DCells.set1 {w : World} {B : Nat} {d : DK.D} {bs bn : Nat} {v : Value} (h : DCells w B d bs bn v) (b : Nat) : DCells (w.setCell ⟨B, 1, none⟩ (.map (some b))) B d b bn v := by
  unfold DCells World.setCell at *
  rw [Array.getElem?_modify, if_pos rfl, h]
  rfl

set_option maxRecDepth 100000 in
set_option maxHeartbeats 1000000 in
theorem disk_sync {w : World} {S : Nat → Prop} {B : Nat} {d : DK.D} (h : DiskAt w S B d) (hfu : d.fused = true → d.dead = false → 0 ≤ d.fuse ∧ d.fuse ≤ 9223372036854775807) :
    Calls Try.prog 14 #[.pointer (some ⟨B, 0, none⟩)] w fun e w' => e = .returned (.int .i64 (DK.syncD d).2) ∧ Left w S B (DK.syncD d).1 w' := by
  have hd := disk_dead h
  cases hdd : d.dead with
  | true =>
    have hs : DK.syncD d = (d, 10) := by unfold DK.syncD; rw [if_pos hdd]
    rw [hs]
    rw [hdd] at hd
    have HD := Lib.hid hd
    have HH := Lib.hid h
    clear hd hs h hdd hfu
    go_enter Try.func14, Try.ntmps14
    go_wp2_with fail
    refine HD.out.mono ?_
    rintro e w' ⟨rfl, rfl⟩
    go_wp2
    go_ret
    exact ⟨rfl, Left.same HH.out (Ext.refl _)⟩
  | false =>
    have hb := disk_burns h hdd (fun e => hfu e hdd)
    have hs : DK.syncD d = if (DK.burn d).dead = true then (DK.burn d, 10) else ({ DK.burn d with safe := d.now, todo := [] }, 0) := by unfold DK.syncD; rw [if_neg (by rw [hdd]; simp)]
    rw [hdd] at hd
    have HD := Lib.hid hd
    have hSB : S B := by obtain ⟨_, _, _, hi⟩ := h; exact hi.sB
    have hlt : ∀ k, S k → k < w.heap.size := by obtain ⟨_, _, _, hi⟩ := h; exact hi.lt
    obtain ⟨q, hq⟩ : ∃ q, (DK.burn d).dead = q := ⟨_, rfl⟩
    rw [hq] at hs hb
    have HQ := Lib.hid hq
    have HB := Lib.hid hb
    have HS := Lib.hid hs
    have HSB := Lib.hid hSB
    have HLT := Lib.hid hlt
    obtain ⟨r, hr⟩ : ∃ r, DK.syncD d = r := ⟨_, rfl⟩
    rw [hr] at HS ⊢
    clear hd hs h hdd hfu hb hq hr hSB hlt
    go_enter Try.func14, Try.ntmps14
    go_wp2_with fail
    refine HD.out.mono ?_
    rintro e w' ⟨rfl, rfl⟩
    go_wp2_with fail
    refine HB.out.mono ?_
    rintro e w1 ⟨rfl, hD1, hg1⟩
    have HD1 := Lib.hid hD1
    have HT1 := Lib.hid ((Turn.refl S w).grown hg1 (.inl HSB.out))
    clear hD1 hg1
    cases q with
    | true =>
      go_wp2
      go_ret
      have hf := HS.out
      simp only [if_true] at hf
      rw [hf]
      exact ⟨rfl, S, HD1.out, HT1.out, Grew.refl _ _⟩
    | false =>
      obtain ⟨bs, bn, v, hi⟩ := HD1.out
      have HI := Lib.hid hi
      have c1 := hi.cells.c1
      have c2 := hi.cells.c2
      have c3 := hi.cells.c3
      have hn := hi.now
      rw [DK.burn_now] at hn
      have HCL := Lib.hid (files_clone bn d.now w1 hn)
      have hvs : ∃ p n c, v = .slice p n c := by
        obtain ⟨xs, _, hrow, _⟩ := hi.steps
        obtain ⟨p, c, e⟩ := row_slice hrow
        exact ⟨p, _, c, e⟩
      obtain ⟨p, n, c, rfl⟩ := hvs
      clear hi hn
      go_wp2_with fail
      refine HCL.out.mono ?_
      rintro e w2 ⟨rfl, hf2, hlt2, g2⟩
      have hi2 := HI.out.ext g2
      have k1 := hi2.cells.c1
      have k3 := hi2.cells.c3
      have f1 := hi2.cells.fr 1
      have f3 := hi2.cells.fr 3
      have HI2 := Lib.hid hi2
      have HF2 := Lib.hid hf2
      have HLT2 := Lib.hid hlt2
      have HG2 := Lib.hid g2
      clear hi2 hf2 hlt2 g2 c1 c2 c3
      go_wp2
      go_ret
      have hf := HS.out
      rw [if_neg (by simp)] at hf
      rw [hf]
      have gA := grown_setCell w2 B 1 (.map (some w1.heap.size))
      have gB := grown_setCell (w2.setCell ⟨B, 1, none⟩ (.map (some w1.heap.size))) B 3 (.slice none 0 0)
      have gAB := gA.trans gB
      have hBlt := HI.out.cells.lt
      have hbnlt := HI.out.now.lt
      have hT : Turn S w ((w2.setCell ⟨B, 1, none⟩ (.map (some w1.heap.size))).setCell ⟨B, 3, none⟩ (.slice none 0 0)) := (HT1.out.more HG2.out).grown gAB (.inl HSB.out)
      have hGr : Grew w S (fun k => S k ∨ k = w1.heap.size) := fun k hk => by
        rcases hk with h1 | rfl
        · exact .inl h1
        · exact .inr HT1.out.size
      refine ⟨rfl, fun k => S k ∨ k = w1.heap.size, ⟨w1.heap.size, bn, .slice none 0 0, ?_⟩, hT, hGr⟩
      constructor
      · exact (HI2.out.cells.set1 w1.heap.size).set3 (.slice none 0 0)
      · exact HF2.out.grown gAB (by omega)
      · have := HI2.out.now.grown gAB HI.out.bn_ne
        exact this
      · omega
      · exact ⟨[], rfl, World.ownsRow_nil _ _ _ _, fun i hi => absurd hi (Nat.not_lt_zero _)⟩
      · intro e; cases e
      · exact .inl HI.out.sB
      · exact .inr rfl
      · exact .inl HI.out.sn
      · intro g e; cases e
      · intro k hk
        have h1 := gAB.size
        have h2 := HG2.out.size
        have h3 := HLT2.out
        rcases hk with h4 | rfl
        · have := HI.out.lt k h4
          omega
        · omega
end Go.Proofs.Ytfegfbhchdfibaa
