/- Bytes are written into a file; the four steps as functions of files. -/
import Derived.Test.YtfegfbhchdfibaaDiskFiles
import Derived.OwnWalk
namespace Go.Proofs.Ytfegfbhchdfibaa
open Go.RowKit

theorem grown_drew {w w' : World} {r : Option Nat} (h : w.drew.grownBy w' r) : w.grownBy w' r := ⟨h.os, h.tape, h.output, h.size, h.block⟩
theorem field_file (x : ByteArray) (w : World) : (Instr.field 59 (.agg #[.string x]) 0).run Try.prog w = .ok (.string x) w := by kernel_rfl

set_option maxRecDepth 100000 in
set_option maxHeartbeats 1000000 in
theorem files_write (b : Nat) (m : DK.Files) (n s : ByteArray) (k : Nat) (w : World) (h : FilesAt w b m) (hok : DK.okS m (.write n k s)) (hs : DK.Small 1073741824 m) :
    Calls Try.prog 26 #[.map (some b), .string n, .int .i64 k, .string s] w fun e w' => e = .returned (.tuple #[]) ∧ FilesAt w' b (DK.doS m (.write n k s)) ∧ w.grownBy w' (some b) := by
  obtain ⟨hk, hs1, hn1⟩ := hok
  have hlook := h.look n (by unfold maxLen; omega)
  have hws := hs.get n
  have hlen := hs.1
  have hdo : DK.doS m (.write n k s) = DK.put m n (DK.over (DK.get m n) k s) := rfl
  rw [hdo]
  have hst := fun s' => (h.ext (Ext.refl w).drew).store n s' (by unfold maxLen; omega) (by unfold maxLen; omega)
  have HST := Lib.hid hst
  unfold DK.over
  generalize DK.get m n = was at *
  obtain ⟨e, he⟩ : ∃ e, min (k + s.size) was.size = e := ⟨_, rfl⟩
  rw [he]
  have hmin : ∀ w, (Builtin.min_ #[3, 3] 3 #[.int .i64 ((k : Int) + s.size), .int .i64 was.size]).run Try.prog w = .ok (.int .i64 e) w := fun w => by rw [run_min2, show min ((k : Int) + s.size) was.size = e by omega]
  have hw1 : IntKind.i64.wrap ((k : Int) + s.size) = (k : Int) + s.size := IntWalk.i64_in _ ⟨by omega, by omega⟩
  have hel : e ≤ was.size := by omega
  have hz1 : (was.extract 0 k).size = k := by rw [ByteArray.size_extract]; omega
  have hz2 : (was.extract e was.size).size = was.size - e := by rw [ByteArray.size_extract]; omega
  obtain ⟨w', hrun, hf, hg⟩ := HST.out ((was.extract 0 k ++ s) ++ was.extract e was.size)
  have HF := Lib.hid hf
  have HG := Lib.hid hg
  clear hst HST hdo hf hg he
  have hfd := field_file
  go_enter Try.func26, Try.ntmps26
  go_wp2
  refine wp_region_noPanic ?_
  go_region
  refine NoPanic.normal ?_
  go_end0
  exact ⟨rfl, HF.out, grown_drew HG.out⟩

/-- The boxes that a step has caught. -/
structure Box (W : World) (k : Nat) (t : TypeId) (v : Value) : Prop where
  at_ : W.heap[k]? = some (.cells #[v] t (0, 0))
theorem Box.c {W : World} {k : Nat} {t : TypeId} {v : Value} (h : Box W k t v) : W.cell? ⟨k, 0, none⟩ = some v := (cell_row h.at_).1
theorem Box.lt {W : World} {k : Nat} {t : TypeId} {v : Value} (h : Box W k t v) : k < W.heap.size := (Array.getElem?_eq_some_iff.1 h.at_).1
theorem Box.new (W : World) (t : TypeId) (v : Value) : Box (W.alloc (.cells #[v] t)) W.heap.size t v := ⟨heap_alloc_new W _⟩
theorem Box.ext {W W' : World} {k : Nat} {t : TypeId} {v : Value} (h : Box W k t v) (he : Ext W W') : Box W' k t v := ⟨(he.block h.lt).trans h.at_⟩

set_option maxRecDepth 100000 in
theorem step_write (B1 B2 B3 b : Nat) (m : DK.Files) (n s : ByteArray) (k : Nat) (w : World) (h1 : Box w B1 9 (.string n)) (h2 : Box w B2 3 (.int .i64 k)) (h3 : Box w B3 9 (.string s)) (h : FilesAt w b m) (hok : DK.okS m (.write n k s)) (hs : DK.Small 1073741824 m) :
    Calls Try.prog 25 #[.map (some b), .pointer (some ⟨B1, 0, none⟩), .pointer (some ⟨B2, 0, none⟩), .pointer (some ⟨B3, 0, none⟩)] w fun e w' => e = .returned (.tuple #[]) ∧ FilesAt w' b (DK.doS m (.write n k s)) ∧ w.grownBy w' (some b) := by
  have HW := Lib.hid (files_write b m n s k w h hok hs)
  have c1 := h1.c
  have c2 := h2.c
  have c3 := h3.c
  go_enter Try.func25, Try.ntmps25
  go_wp2_with fail
  refine HW.out.mono ?_
  rintro e w' ⟨rfl, hf, hg⟩
  go_wp2
  go_end0
  exact ⟨rfl, hf, hg⟩

set_option maxRecDepth 100000 in
set_option maxHeartbeats 1000000 in
theorem step_torn (B1 B2 B3 b : Nat) (m : DK.Files) (n s : ByteArray) (k t : Nat) (w : World) (h1 : Box w B1 9 (.string n)) (h2 : Box w B2 3 (.int .i64 k)) (h3 : Box w B3 9 (.string s)) (h : FilesAt w b m) (hok : DK.okS m (.write n k s)) (hs : DK.Small 1073741824 m) :
    Calls Try.prog 30 #[.map (some b), .int .i64 t, .pointer (some ⟨B1, 0, none⟩), .pointer (some ⟨B2, 0, none⟩), .pointer (some ⟨B3, 0, none⟩)] w fun e w' => e = .returned (.tuple #[]) ∧ FilesAt w' b (DK.doS m (.write n k (s.extract 0 (min t s.size)))) ∧ w.grownBy w' (some b) := by
  obtain ⟨q, hq⟩ : ∃ q, min t s.size = q := ⟨_, rfl⟩
  rw [hq]
  have hok2 : DK.okS m (.write n k (s.extract 0 q)) := ⟨hok.1, by rw [ByteArray.size_extract]; have := hok.2.1; omega, hok.2.2⟩
  have HW := Lib.hid (fun W (he : Ext w W) => files_write b m n (s.extract 0 q) k W (h.ext he) hok2 hs)
  have hmin : ∀ w, (Builtin.min_ #[3, 3] 3 #[.int .i64 t, .int .i64 s.size]).run Try.prog w = .ok (.int .i64 q) w := fun w => by rw [run_min2, show min (t : Int) (s.size : Int) = q by omega]
  have hqs : q ≤ s.size := by omega
  have c1 := h1.c
  have c2 := h2.c
  have c3 := h3.c
  have k1 := fun (W W' : World) (he : Ext w W) (hg : W.grownBy W' (some b)) => (World.cell?_of_block (a := ⟨B1, 0, none⟩) (hg.block B1 (by have := h1.lt; have := he.size; omega) (by intro e; injection e with e; exact h.ne_cells h1.at_ e.symm))).trans (he.cell c1)
  have k2 := fun (W W' : World) (he : Ext w W) (hg : W.grownBy W' (some b)) => (World.cell?_of_block (a := ⟨B2, 0, none⟩) (hg.block B2 (by have := h2.lt; have := he.size; omega) (by intro e; injection e with e; exact h.ne_cells h2.at_ e.symm))).trans (he.cell c2)
  have k3 := fun (W W' : World) (he : Ext w W) (hg : W.grownBy W' (some b)) => (World.cell?_of_block (a := ⟨B3, 0, none⟩) (hg.block B3 (by have := h3.lt; have := he.size; omega) (by intro e; injection e with e; exact h.ne_cells h3.at_ e.symm))).trans (he.cell c3)
  have HK := Lib.hid (And.intro k1 (And.intro k2 k3))
  clear hq hok hok2 h1 h2 h3 h hs k1 k2 k3
  go_enter Try.func30, Try.ntmps30
  go_wp2
  refine wp_region_noPanic ?_
  go_region_held3 (fun w' => w'.cell? ⟨B1, 0, none⟩ = some (.string n) ∧ w'.cell? ⟨B2, 0, none⟩ = some (.int .i64 k) ∧ w'.cell? ⟨B3, 0, none⟩ = some (.string s)) (go_keep)
    (first | (go_at_call 26; refine (HW.out _ (Ext.refl _).drew).mono ?_; rintro e w' ⟨rfl, hf, hg⟩; have d1 := HK.out.1 _ _ (Ext.refl _).drew hg; have d2 := HK.out.2.1 _ _ (Ext.refl _).drew hg; have d3 := HK.out.2.2 _ _ (Ext.refl _).drew hg; have HF := Lib.hid hf; have HG := Lib.hid hg; clear hf hg))
  refine NoPanic.normal ?_
  go_end0
  exact ⟨rfl, HF.out, grown_drew HG.out⟩

end Go.Proofs.Ytfegfbhchdfibaa
