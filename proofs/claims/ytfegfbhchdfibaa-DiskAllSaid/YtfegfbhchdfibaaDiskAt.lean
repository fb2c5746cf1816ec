/- A disk in memory: its cells, its two maps, its pending steps; and its small functions. -/
import Derived.Test.YtfegfbhchdfibaaDiskWrite
import Derived.Test.YtfegfbhchdfibaaDiskName
import Derived.Test.YtfegfbhchdfibaaDiskClone
namespace Go.Proofs.Ytfegfbhchdfibaa
open Go.RowKit

/-- A block of six cells (no box that a step has caught is one). -/
def Loose (o : Option Obj) : Prop := ∃ cs t f, o = some (.cells cs t f) ∧ cs.size = 6
/-- What lay outside some blocks lies as it lay, but for blocks of six cells. -/
def Kept (S : Nat → Prop) (w W : World) : Prop := ∀ k, k < w.heap.size → ¬ S k → ¬ Loose w.heap[k]? → W.heap[k]? = w.heap[k]?
theorem Kept.refl (S : Nat → Prop) (w : World) : Kept S w w := fun _ _ _ _ => rfl
theorem Kept.back {S S' : Nat → Prop} {w w' W : World} (ht : Turn S w w') (hg : Grew w S S') (h : Kept S' w' W) : Kept S w W := fun k hk hn hl =>
  (h k (by have := ht.size; omega) (fun hs => by
    rcases hg k hs with h1 | h1
    · exact hn h1
    · omega) (by rw [ht.block k hk hn]; exact hl)).trans (ht.block k hk hn)
/-- .. a block of six cells that has turned is of no account. -/
theorem Kept.past {S : Nat → Prop} {w w' W : World} {X : Nat} (hg : w.grownBy w' (some X)) (hx : Loose w.heap[X]?) (h : Kept S w' W) : Kept S w W := fun k hk hn hl => by
  have hne : k ≠ X := fun e => hl (e ▸ hx)
  have e := hg.block k hk (by intro e; injection e with e; exact hne e)
  exact (h k (by have := hg.size; omega) hn (by rw [e]; exact hl)).trans e

/-- A function value that does a step with files. -/
def DoV (w : World) (S : Nat → Prop) (v : Value) (st : DK.Step) : Prop :=
  ∃ F caps, v = .func (.func F) #[] caps ∧ (∀ args W, (callFunc F args).run Try.prog W = .ok (.enter F args) W) ∧
    ∀ W, Kept S w W → ∀ b m, FilesAt W b m → DK.okS m st → DK.Small 1073741824 m →
      Calls Try.prog F (#[.map (some b)] ++ caps) W fun e W' => e = .returned (.tuple #[]) ∧ FilesAt W' b (DK.doS m st) ∧ W.grownBy W' (some b)
/-- .. its first bytes alone, if it is a write. -/
def TornV (w : World) (S : Nat → Prop) (v : Value) (st : DK.Step) : Prop :=
  ((∀ t, DK.torn t st = none) ∧ v = .nilFunc) ∨
  ((∃ n k s, st = .write n k s) ∧ ∃ F caps, v = .func (.func F) #[] caps ∧ (∀ args W, (callFunc F args).run Try.prog W = .ok (.enter F args) W) ∧
    ∀ W, Kept S w W → ∀ b m (t : Nat), FilesAt W b m → DK.okS m st → DK.Small 1073741824 m →
      Calls Try.prog F (#[.map (some b), .int .i64 t] ++ caps) W fun e W' => e = .returned (.tuple #[]) ∧ (∃ st', DK.torn t st = some st' ∧ FilesAt W' b (DK.doS m st')) ∧ W.grownBy W' (some b))
theorem DoV.turn {w w' : World} {S S' : Nat → Prop} {v : Value} {st : DK.Step} (h : DoV w S v st) (ht : Turn S w w') (hg : Grew w S S') : DoV w' S' v st := by
  obtain ⟨F, caps, h1, h2, h3⟩ := h
  exact ⟨F, caps, h1, h2, fun W hW => h3 W (hW.back ht hg)⟩
theorem TornV.turn {w w' : World} {S S' : Nat → Prop} {v : Value} {st : DK.Step} (h : TornV w S v st) (ht : Turn S w w') (hg : Grew w S S') : TornV w' S' v st := by
  rcases h with h | ⟨h0, F, caps, h1, h2, h3⟩
  · exact .inl h
  · exact .inr ⟨h0, F, caps, h1, h2, fun W hW => h3 W (hW.back ht hg)⟩

def stepCells (xs : List (Value × Value)) : List Value := xs.flatMap fun p => [p.1, p.2]
/-- The pending steps: a slice of pairs of function values. -/
def StepsV (w : World) (S : Nat → Prop) (v : Value) (todo : List DK.Step) : Prop :=
  ∃ xs : List (Value × Value), xs.length = todo.length ∧ w.ownsRow 0 67 2 v todo.length (stepCells xs) ∧ ∀ i (h : i < todo.length) (h' : i < xs.length), DoV w S xs[i].1 todo[i] ∧ TornV w S xs[i].2 todo[i]

def DCells (w : World) (B : Nat) (d : DK.D) (bs bn : Nat) (v : Value) : Prop :=
  w.heap[B]? = some (.cells #[.int .i64 d.room, .map (some bs), .map (some bn), v, .bool d.dead, .bool d.fused, .int .i64 d.fuse] 56 (0, 0))

/-- Block B is a disk; S are the blocks that are its own. -/
structure DiskIs (w : World) (S : Nat → Prop) (B : Nat) (d : DK.D) (bs bn : Nat) (v : Value) : Prop where
  cells : DCells w B d bs bn v
  safe : FilesAt w bs d.safe
  now : FilesAt w bn d.now
  ne : bs ≠ bn
  steps : StepsV w S v d.todo
  row : v.ownBlock ≠ some B
  sB : S B
  ss : S bs
  sn : S bn
  sv : ∀ g, v.ownBlock = some g → S g
  lt : ∀ k, S k → k < w.heap.size
def DiskAt (w : World) (S : Nat → Prop) (B : Nat) (d : DK.D) : Prop := ∃ bs bn v, DiskIs w S B d bs bn v

theorem DCells.c0 {w : World} {B : Nat} {d : DK.D} {bs bn : Nat} {v : Value} (h : DCells w B d bs bn v) : w.cell? ⟨B, 0, none⟩ = some (.int .i64 d.room) := (cell_row h).1
theorem DCells.c1 {w : World} {B : Nat} {d : DK.D} {bs bn : Nat} {v : Value} (h : DCells w B d bs bn v) : w.cell? ⟨B, 1, none⟩ = some (.map (some bs)) := (cell_row h).1
theorem DCells.c2 {w : World} {B : Nat} {d : DK.D} {bs bn : Nat} {v : Value} (h : DCells w B d bs bn v) : w.cell? ⟨B, 2, none⟩ = some (.map (some bn)) := (cell_row h).1
theorem DCells.c3 {w : World} {B : Nat} {d : DK.D} {bs bn : Nat} {v : Value} (h : DCells w B d bs bn v) : w.cell? ⟨B, 3, none⟩ = some v := (cell_row h).1
theorem DCells.c4 {w : World} {B : Nat} {d : DK.D} {bs bn : Nat} {v : Value} (h : DCells w B d bs bn v) : w.cell? ⟨B, 4, none⟩ = some (.bool d.dead) := (cell_row h).1
theorem DCells.c5 {w : World} {B : Nat} {d : DK.D} {bs bn : Nat} {v : Value} (h : DCells w B d bs bn v) : w.cell? ⟨B, 5, none⟩ = some (.bool d.fused) := (cell_row h).1
theorem DCells.c6 {w : World} {B : Nat} {d : DK.D} {bs bn : Nat} {v : Value} (h : DCells w B d bs bn v) : w.cell? ⟨B, 6, none⟩ = some (.int .i64 d.fuse) := (cell_row h).1
theorem DCells.fr {w : World} {B : Nat} {d : DK.D} {bs bn : Nat} {v : Value} (h : DCells w B d bs bn v) (i : Nat) : w.frozen? ⟨B, i, none⟩ = false := (cell_row (i := i) h).2
theorem DCells.lt {w : World} {B : Nat} {d : DK.D} {bs bn : Nat} {v : Value} (h : DCells w B d bs bn v) : B < w.heap.size := (Array.getElem?_eq_some_iff.1 h).1

theorem StepsV.turn {w w' : World} {S S' : Nat → Prop} {v : Value} {l : List DK.Step} (h : StepsV w S v l) (ht : Turn S w w') (hg : Grew w S S') (hb : ∀ g, v.ownBlock = some g → w'.heap[g]? = w.heap[g]?) : StepsV w' S' v l := by
  obtain ⟨xs, h1, h2, h3⟩ := h
  refine ⟨xs, h1, ⟨h2.1, h2.2.imp id ?_⟩, fun i hi hi' => ⟨(h3 i hi hi').1.turn ht hg, (h3 i hi hi').2.turn ht hg⟩⟩
  rintro ⟨g, cap, cur, rfl, k1, k2, k3⟩
  exact ⟨g, cap, cur, rfl, k1, (hb g rfl).trans k2, k3⟩
/-- A disk's blocks are unlike one another. -/
theorem DiskIs.bs_ne {w : World} {S : Nat → Prop} {B : Nat} {d : DK.D} {bs bn : Nat} {v : Value} (h : DiskIs w S B d bs bn v) : bs ≠ B := h.safe.ne_cells h.cells
theorem DiskIs.bn_ne {w : World} {S : Nat → Prop} {B : Nat} {d : DK.D} {bs bn : Nat} {v : Value} (h : DiskIs w S B d bs bn v) : bn ≠ B := h.now.ne_cells h.cells
theorem row_ne {w : World} {t : TypeId} {v : Value} {n : Nat} {xs : List Value} {b : Nat} {m : DK.Files} (h : w.ownsRow 0 t 2 v n xs) (hf : FilesAt w b m) : v.ownBlock ≠ some b := by
  rcases h.2 with ⟨rfl, _⟩ | ⟨g, cap, cur, rfl, h1, h2, _⟩
  · intro e; cases e
  · intro e
    have e : g = b := by simpa [Value.ownBlock] using e
    exact hf.ne_cells h2 e.symm
theorem DiskIs.bs_row {w : World} {S : Nat → Prop} {B : Nat} {d : DK.D} {bs bn : Nat} {v : Value} (h : DiskIs w S B d bs bn v) : v.ownBlock ≠ some bs := by
  obtain ⟨xs, _, h2, _⟩ := h.steps
  exact row_ne h2 h.safe
theorem DiskIs.bn_row {w : World} {S : Nat → Prop} {B : Nat} {d : DK.D} {bs bn : Nat} {v : Value} (h : DiskIs w S B d bs bn v) : v.ownBlock ≠ some bn := by
  obtain ⟨xs, _, h2, _⟩ := h.steps
  exact row_ne h2 h.now

theorem DiskIs.ext {w w' : World} {S : Nat → Prop} {B : Nat} {d : DK.D} {bs bn : Nat} {v : Value} (h : DiskIs w S B d bs bn v) (he : Ext w w') : DiskIs w' S B d bs bn v where
  cells := (he.block h.cells.lt).trans h.cells
  safe := h.safe.ext he
  now := h.now.ext he
  ne := h.ne
  steps := h.steps.turn (Turn.of_ext he) (Grew.refl _ _) fun g hg => he.block (h.lt g (h.sv g hg))
  row := h.row
  sB := h.sB
  ss := h.ss
  sn := h.sn
  sv := h.sv
  lt := fun k hk => Nat.lt_of_lt_of_le (h.lt k hk) he.size
theorem DiskAt.ext {w w' : World} {S : Nat → Prop} {B : Nat} {d : DK.D} (h : DiskAt w S B d) (he : Ext w w') : DiskAt w' S B d := by
  obtain ⟨bs, bn, v, h⟩ := h
  exact ⟨bs, bn, v, h.ext he⟩
/-- A block of six cells that is none of the disk's has turned. -/
theorem DiskIs.past {w w' : World} {S : Nat → Prop} {B X : Nat} {d : DK.D} {bs bn : Nat} {v : Value} (h : DiskIs w S B d bs bn v) (hg : w.grownBy w' (some X)) (hx : Loose w.heap[X]?) (hn : ¬ S X) : DiskIs w' S B d bs bn v where
  cells := (hg.block B h.cells.lt (by intro e; injection e with e; subst e; exact hn h.sB)).trans h.cells
  safe := h.safe.grown hg (fun e => hn (e ▸ h.ss))
  now := h.now.grown hg (fun e => hn (e ▸ h.sn))
  ne := h.ne
  steps := by
    obtain ⟨xs, h1, h2, h3⟩ := h.steps
    refine ⟨xs, h1, ⟨h2.1, h2.2.imp id ?_⟩, fun i hi hi' => ⟨?_, ?_⟩⟩
    · rintro ⟨g, cap, cur, rfl, k1, k2, k3⟩
      exact ⟨g, cap, cur, rfl, k1, (hg.block g (h.lt g (h.sv g rfl)) (by intro e; injection e with e; subst e; exact hn (h.sv _ rfl))).trans k2, k3⟩
    · obtain ⟨F, caps, k1, k2, k3⟩ := (h3 i hi hi').1
      exact ⟨F, caps, k1, k2, fun W hW => k3 W (hW.past hg hx)⟩
    · rcases (h3 i hi hi').2 with h | ⟨h0, F, caps, k1, k2, k3⟩
      · exact .inl h
      · exact .inr ⟨h0, F, caps, k1, k2, fun W hW => k3 W (hW.past hg hx)⟩
  row := h.row
  sB := h.sB
  ss := h.ss
  sn := h.sn
  sv := h.sv
  lt := fun k hk => Nat.lt_of_lt_of_le (h.lt k hk) hg.size
theorem DiskAt.past {w w' : World} {S : Nat → Prop} {B X : Nat} {d : DK.D} (h : DiskAt w S B d) (hg : w.grownBy w' (some X)) (hx : Loose w.heap[X]?) (hn : ¬ S X) : DiskAt w' S B d := by
  obtain ⟨bs, bn, v, h⟩ := h
  exact ⟨bs, bn, v, h.past hg hx hn⟩
/-- The disk's own cells alone have turned, but for the maps and the steps. -/
theorem DiskIs.cellsTo {w w' : World} {S : Nat → Prop} {B : Nat} {d d' : DK.D} {bs bn : Nat} {v : Value} (h : DiskIs w S B d bs bn v) (hg : w.grownBy w' (some B)) (hc : DCells w' B d' bs bn v) (e1 : d'.safe = d.safe) (e2 : d'.now = d.now) (e3 : d'.todo = d.todo) : DiskIs w' S B d' bs bn v where
  cells := hc
  safe := by rw [e1]; exact h.safe.grown hg h.bs_ne
  now := by rw [e2]; exact h.now.grown hg h.bn_ne
  ne := h.ne
  steps := by rw [e3]; exact h.steps.turn ((Turn.refl S w).grown hg (.inl h.sB)) (Grew.refl _ _) fun g hg' => hg.block g (h.lt g (h.sv g hg')) (by intro e; injection e with e; subst e; exact h.row hg')
  row := h.row
  sB := h.sB
  ss := h.ss
  sn := h.sn
  sv := h.sv
  lt := fun k hk => Nat.lt_of_lt_of_le (h.lt k hk) hg.size

set_option maxRecDepth 100000 in
theorem disk_dead {w : World} {S : Nat → Prop} {B : Nat} {d : DK.D} (h : DiskAt w S B d) : Calls Try.prog 22 #[.pointer (some ⟨B, 0, none⟩)] w fun e w' => e = .returned (.bool d.dead) ∧ w = w' := by
  obtain ⟨bs, bn, v, h⟩ := h
  have c4 := h.cells.c4
  generalize d.dead = b at *
  clear h
  go_enter Try.func22, Try.ntmps22
  go_wp2
  go_ret
  exact ⟨rfl, rfl⟩
set_option maxRecDepth 100000 in
theorem dead_nil (w : World) : Calls Try.prog 22 #[.pointer none] w fun e w' => e = .returned (.bool true) ∧ w = w' := by
  go_enter Try.func22, Try.ntmps22
  go_wp2
  go_ret
  exact ⟨rfl, rfl⟩

set_option maxRecDepth 100000 in
set_option maxHeartbeats 1000000 in
theorem disk_burns {w : World} {S : Nat → Prop} {B : Nat} {d : DK.D} (h : DiskAt w S B d) (hl : d.dead = false) (hf : d.fused = true → 0 ≤ d.fuse ∧ d.fuse ≤ 9223372036854775807) :
    Calls Try.prog 35 #[.pointer (some ⟨B, 0, none⟩)] w fun e w' => e = .returned (.bool (DK.burn d).dead) ∧ DiskAt w' S B (DK.burn d) ∧ w.grownBy w' (some B) := by
  obtain ⟨bs, bn, v, h⟩ := h
  have c5 := h.cells.c5
  cases hfu : d.fused with
  | false =>
    have hb : DK.burn d = d := by unfold DK.burn; rw [if_neg (by rw [hfu]; simp)]
    rw [hb, hl]
    rw [hfu] at c5
    have HI := Lib.hid h
    clear hf h hfu
    go_enter Try.func35, Try.ntmps35
    go_wp2
    go_ret
    exact ⟨rfl, ⟨bs, bn, v, HI.out⟩, World.grownBy.refl _ _⟩
  | true =>
    rw [hfu] at c5
    have hb : DK.burn d = { d with fuse := d.fuse - 1, dead := decide (d.fuse - 1 < 0) } := by unfold DK.burn; rw [if_pos hfu]
    rw [hb]
    have hf2 := hf hfu
    have c4 := h.cells.c4
    have c6 := h.cells.c6
    have f4 := h.cells.fr 4
    have f6 := h.cells.fr 6
    have hfin : DCells ((w.setCell ⟨B, 6, none⟩ (.int .i64 (d.fuse - 1))).setCell ⟨B, 4, none⟩ (.bool (decide (d.fuse - 1 < 0)))) B { d with fuse := d.fuse - 1, dead := decide (d.fuse - 1 < 0) } bs bn v := by
      have := h.cells
      unfold DCells World.setCell at *
      rw [Array.getElem?_modify, if_pos rfl, Array.getElem?_modify, if_pos rfl, this]
      rfl
    have HI := Lib.hid h
    have HFI := Lib.hid hfin
    rw [hl] at c4
    have hw : IntKind.i64.wrap (d.fuse - 1) = d.fuse - 1 := IntWalk.i64_in _ ⟨by omega, by omega⟩
    clear h hfin hb hf hfu hf2
    generalize d.fuse = f at *
    go_enter Try.func35, Try.ntmps35
    go_wp2
    go_ret
    have g1 := grown_setCell w B 6 (.int .i64 (f - 1))
    have g2 := grown_setCell (w.setCell ⟨B, 6, none⟩ (.int .i64 (f - 1))) B 4 (.bool (decide (f - 1 < 0)))
    exact ⟨rfl, ⟨bs, bn, v, HI.out.cellsTo (g1.trans g2) HFI.out rfl rfl rfl⟩, g1.trans g2⟩
end Go.Proofs.Ytfegfbhchdfibaa
