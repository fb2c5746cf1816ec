/- Maps of files in memory; a world that has turned in some blocks alone. -/
import Derived.Test.YtfegfbhchdfibaaDiskPlain
import Derived.Test.YtfegfbhchdfibaaOwnRows
import Derived.Maps.RangeWalk
import Derived.Maps.OwnSet
namespace Go.Proofs.Ytfegfbhchdfibaa
open Go.RowKit

/-- The world has grown, and of what was there the blocks S alone may be others. -/
structure Turn (S : Nat → Prop) (w w' : World) : Prop where
  os : w'.os = w.os
  tape : w'.tape = w.tape
  output : w'.output = w.output
  size : w.heap.size ≤ w'.heap.size
  block : ∀ k, k < w.heap.size → ¬ S k → w'.heap[k]? = w.heap[k]?

theorem Turn.refl (S : Nat → Prop) (w : World) : Turn S w w := ⟨rfl, rfl, rfl, Nat.le_refl _, fun _ _ _ => rfl⟩
theorem Turn.of_ext {S : Nat → Prop} {w w' : World} (h : Ext w w') : Turn S w w' := ⟨h.os, h.tape, h.output, h.size, fun _ hk _ => h.block hk⟩
/-- What a set of blocks has become: nothing that was there has come in. -/
def Grew (w : World) (S S' : Nat → Prop) : Prop := ∀ k, S' k → S k ∨ w.heap.size ≤ k
theorem Grew.refl (w : World) (S : Nat → Prop) : Grew w S S := fun _ h => .inl h
theorem Grew.trans {w w' : World} {S S' S'' : Nat → Prop} (h : Grew w S S') (hs : w.heap.size ≤ w'.heap.size) (k : Grew w' S' S'') : Grew w S S'' := fun b hb => by
  rcases k b hb with h1 | h1
  · exact h b h1
  · exact .inr (Nat.le_trans hs h1)
theorem Turn.trans {S S' : Nat → Prop} {w w' w'' : World} (h : Turn S w w') (hg : Grew w S S') (k : Turn S' w' w'') : Turn S w w'' :=
  ⟨k.os.trans h.os, k.tape.trans h.tape, k.output.trans h.output, Nat.le_trans h.size k.size, fun b hb hn => by
    refine (k.block b (Nat.lt_of_lt_of_le hb h.size) fun hs => ?_).trans (h.block b hb hn)
    rcases hg b hs with h1 | h1
    · exact hn h1
    · omega⟩
theorem Turn.trans' {S : Nat → Prop} {w w' w'' : World} (h : Turn S w w') (k : Turn S w' w'') : Turn S w w'' := h.trans (Grew.refl _ _) k
theorem Turn.more {S : Nat → Prop} {w w' w'' : World} (h : Turn S w w') (k : Ext w' w'') : Turn S w w'' := h.trans' (Turn.of_ext k)
theorem Turn.ext {S : Nat → Prop} {w0 w w' : World} (h : Turn S w w') (he : Ext w0 w) (hS : ∀ k, S k → w0.heap.size ≤ k) : Ext w0 w' :=
  ⟨h.os.trans he.os, h.tape.trans he.tape, h.output.trans he.output, Nat.le_trans he.size h.size, fun k hk => (h.block k (by have := he.size; omega) (fun hs => by have := hS k hs; omega)).trans (he.block hk)⟩
theorem Turn.grown {S : Nat → Prop} {w w' w'' : World} {k : Nat} (h : Turn S w w') (hg : w'.grownBy w'' (some k)) (hk : S k ∨ w.heap.size ≤ k) : Turn S w w'' :=
  ⟨hg.os.trans h.os, hg.tape.trans h.tape, hg.output.trans h.output, Nat.le_trans h.size hg.size, fun b hb hn => (hg.block b (Nat.lt_of_lt_of_le hb h.size) (by
    intro e
    injection e with e
    subst e
    rcases hk with h1 | h1
    · exact hn h1
    · omega)).trans (h.block b hb hn)⟩
theorem Turn.grown0 {S : Nat → Prop} {w w' w'' : World} (h : Turn S w w') (hg : w'.grownBy w'' none) : Turn S w w'' :=
  ⟨hg.os.trans h.os, hg.tape.trans h.tape, hg.output.trans h.output, Nat.le_trans h.size hg.size, fun b hb hn => (hg.block b (Nat.lt_of_lt_of_le hb h.size) (by simp)).trans (h.block b hb hn)⟩
theorem Turn.setCell {S : Nat → Prop} {w w' : World} (h : Turn S w w') {g o : Nat} (hk : S g ∨ w.heap.size ≤ g) (v : Value) : Turn S w (w'.setCell ⟨g, o, none⟩ v) := h.grown (grown_setCell _ _ _ _) hk
theorem Turn.cell {S : Nat → Prop} {w w' : World} (h : Turn S w w') {a : Addr} (hn : ¬ S a.block) {v : Value} (hc : w.cell? a = some v) : w'.cell? a = some v :=
  (World.cell?_of_block (h.block a.block (lt_of_cell hc) hn)).trans hc
theorem ext_grown0 {w w' w'' : World} (h : Ext w w') (hg : w'.grownBy w'' none) : Ext w w'' := h.grown hg (fun _ e => by cases e)

/-- How a file's value in a map reads. -/
def fileElem (v : Value) : Option (DataW Unit × List MemPlace) :=
  match v with
  | .agg cs => match cs.toList with
    | [.string s] => some (.lit (DK.lit s), [])
    | _ => none
  | _ => none
def fileV (s : ByteArray) : Value := .agg #[.string s]
theorem fileElem_mk (s : ByteArray) : fileElem (fileV s) = some (.lit (DK.lit s), []) := rfl
theorem fileElem_inv {v : Value} {z : DataW Unit × List MemPlace} (h : fileElem v = some z) : ∃ s, v = fileV s ∧ z = (.lit (DK.lit s), []) := by
  unfold fileElem at h
  split at h
  · rename_i cs
    split at h
    · rename_i s hs
      injection h with h
      refine ⟨s, ?_, h.symm⟩
      unfold fileV
      congr 1
      exact Array.toList_inj.1 hs
    · cases h
  · cases h

theorem keyedS : Maps.Keyed Try.prog 9 := Maps.string_keyed Try.underlying9
theorem key_of (n : ByteArray) (h : n.size ≤ maxLen) : keyOf Try.prog 9 (.string n) = some (DK.lit n) := Go.WideMaps.keyOf_string_mk Try.underlying9 h
theorem zero_file (w : World) : (zeroValue 59).run Try.prog w = .ok (fileV ByteArray.empty) w := by kernel_rfl

/-- Block b is a map of the files m. -/
def FilesAt (w : World) (b : Nat) (m : DK.Files) : Prop := w.ownsMap Try.prog 9 fileElem b m.length (DK.dOf m)

theorem FilesAt.of {w : World} {b n : Nat} {m : DK.Files} (h : w.ownsMap Try.prog 9 fileElem b n (DK.dOf m)) : FilesAt w b m := by
  obtain ⟨es, clock, hb, F, hs, hD⟩ := h
  refine ⟨es, clock, hb, F, ?_, hD⟩
  have h1 := congrArg Maps.size hD
  rw [DK.dOf_size, Maps.size_eq, length_sorted, List.length_map] at h1
  rw [h1]
  simp
theorem FilesAt.lt {w : World} {b : Nat} {m : DK.Files} (h : FilesAt w b m) : b < w.heap.size := World.ownsMap.lt h
theorem FilesAt.block {w w' : World} {b : Nat} {m : DK.Files} (h : FilesAt w b m) (he : w'.heap[b]? = w.heap[b]?) : FilesAt w' b m := by
  obtain ⟨es, clock, hb, r⟩ := h
  exact ⟨es, clock, he.trans hb, r⟩
theorem FilesAt.ext {w w' : World} {b : Nat} {m : DK.Files} (h : FilesAt w b m) (he : Ext w w') : FilesAt w' b m := h.block (he.block h.lt)
theorem FilesAt.turn {S : Nat → Prop} {w w' : World} {b : Nat} {m : DK.Files} (h : FilesAt w b m) (ht : Turn S w w') (hn : ¬ S b) : FilesAt w' b m := h.block (ht.block b h.lt hn)
theorem FilesAt.grown {w w' : World} {b k : Nat} {m : DK.Files} (h : FilesAt w b m) (hg : w.grownBy w' (some k)) (hn : b ≠ k) : FilesAt w' b m := h.block (hg.block b h.lt (by intro e; injection e with e; exact hn e))
theorem FilesAt.made (w : World) : FilesAt (w.alloc (.map #[] 0)) w.heap.size [] := World.ownsMap_made w _ _ _
/-- A map's block is no row of cells. -/
theorem FilesAt.ne_cells {w : World} {b k : Nat} {m : DK.Files} {cs : Array Value} {t : TypeId} {f : Nat × Nat} (h : FilesAt w b m) (hk : w.heap[k]? = some (.cells cs t f)) : b ≠ k := by
  obtain ⟨es, clock, hb, _⟩ := h
  intro e
  subst e
  rw [hb] at hk
  cases hk
set_option maxRecDepth 100000 in
theorem FilesAt.look {w : World} {b : Nat} {m : DK.Files} (h : FilesAt w b m) (n : ByteArray) (hn : n.size ≤ maxLen) : (Instr.lookup 53 (.map (some b)) (.string n) false).run Try.prog w = .ok (.agg #[.string (DK.get m n)]) w := by
  obtain ⟨v, ps, hr, hv⟩ := World.ownsMap.lookup h keyedS Try.underlying53 (zero_file w) (fileElem_mk _) (key_of n hn)
  rw [DK.dOf_atKey] at hv
  obtain ⟨s, rfl, hz⟩ := fileElem_inv hv
  simp only [Prod.mk.injEq] at hz
  injection hz.1 with hz
  have e := DK.lit_inj hz
  unfold fileV at hr
  rw [e]
  exact hr
set_option maxRecDepth 100000 in
theorem FilesAt.look_ok {w : World} {b : Nat} {m : DK.Files} (h : FilesAt w b m) (n : ByteArray) (hn : n.size ≤ maxLen) : (Instr.lookup 53 (.map (some b)) (.string n) true).run Try.prog w = .ok (.tuple #[.agg #[.string (DK.get m n)], .bool (DK.has m n)]) w := by
  obtain ⟨v, ps, hr, hv⟩ := World.ownsMap.look_ok h keyedS Try.underlying53 (zero_file w) (fileElem_mk _) (key_of n hn)
  rw [DK.dOf_atKey] at hv
  rw [DK.dOf_has] at hr
  obtain ⟨s, rfl, hz⟩ := fileElem_inv hv
  simp only [Prod.mk.injEq] at hz
  injection hz.1 with hz
  have e := DK.lit_inj hz
  unfold fileV at hr
  rw [e]
  exact hr
theorem FilesAt.store {w : World} {b : Nat} {m : DK.Files} (h : FilesAt w b m) (n s : ByteArray) (hn : n.size ≤ maxLen) (hm : m.length < maxLen) :
    ∃ w', (Instr.mapUpdate 53 (.map (some b)) (.string n) (.agg #[.string s])).run Try.prog w = .ok () w' ∧ FilesAt w' b (DK.put m n s) ∧ w.grownBy w' (some b) := by
  obtain ⟨w', hr, h1, h2⟩ := World.ownsMap.update h keyedS Try.underlying53 hm (key_of n hn) (fileElem_mk s)
  rw [DK.dOf_put] at h1
  exact ⟨w', hr, .of h1, h2⟩
theorem FilesAt.drop {w : World} {b : Nat} {m : DK.Files} (h : FilesAt w b m) (n : ByteArray) (hn : n.size ≤ maxLen) (ty : TypeId) :
    ∃ w', (Builtin.delete_ #[53, 9] ty #[.map (some b), .string n]).run Try.prog w = .ok (.tuple #[]) w' ∧ FilesAt w' b (DK.without m n) ∧ w.grownBy w' (some b) := by
  obtain ⟨w', hr, h1, h2⟩ := World.ownsMap.drop h keyedS Try.underlying53 (key_of n hn) ty
  rw [DK.dOf_del] at h1
  exact ⟨w', hr, .of h1, h2.grown⟩
theorem FilesAt.len {w : World} {b : Nat} {m : DK.Files} (h : FilesAt w b m) (ty : TypeId) : (Builtin.len_ #[53] ty #[.map (some b)]).run Try.prog w = .ok (.int .i64 m.length) w := by
  have := World.ownsMap.len h Try.underlying53 ty
  rw [DK.dOf_size] at this
  exact this
end Go.Proofs.Ytfegfbhchdfibaa
