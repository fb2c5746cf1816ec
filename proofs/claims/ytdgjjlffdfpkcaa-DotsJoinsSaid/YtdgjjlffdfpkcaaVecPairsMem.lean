/- The iterator of two vectors' peers: what it tells, and how its memory goes on. -/
import Derived.Test.YtdgjjlffdfpkcaaDots
import Derived.Test.YtdgjjlffdfpkcaaRangeTu
import Derived.BigRegionIn
import Derived.BigQuiet
namespace Go.Proofs.Ytdgjjlffdfpkcaa
open Go.RowKit Go.Shelf
attribute [local go_sem] Oper.semAt_some

namespace Vec
/-- The peers of two lists, with both counts. -/
def merge : List Dot → List Dot → List (Int × Int × Int)
  | [], [] => []
  | a :: l, [] => (a.1, a.2, 0) :: merge l []
  | [], b :: m => (b.1, 0, b.2) :: merge [] m
  | a :: l, b :: m => if a.1 < b.1 then (a.1, a.2, 0) :: merge l (b :: m) else if b.1 < a.1 then (b.1, 0, b.2) :: merge (a :: l) m else (a.1, a.2, b.2) :: merge l m
termination_by l m => l.length + m.length
decreasing_by all_goals (simp_wf <;> omega)
theorem merge_nil : merge [] [] = [] := by rw [merge]
theorem merge_left (a : Dot) (l : List Dot) : merge (a :: l) [] = (a.1, a.2, 0) :: merge l [] := by rw [merge]
theorem merge_right (b : Dot) (m : List Dot) : merge [] (b :: m) = (b.1, 0, b.2) :: merge [] m := by rw [merge]
theorem merge_lt {a b : Dot} (l m : List Dot) (h : a.1 < b.1) : merge (a :: l) (b :: m) = (a.1, a.2, 0) :: merge l (b :: m) := by rw [merge, if_pos h]
theorem merge_gt {a b : Dot} (l m : List Dot) (h : b.1 < a.1) : merge (a :: l) (b :: m) = (b.1, 0, b.2) :: merge (a :: l) m := by rw [merge, if_neg (by omega), if_pos h]
theorem merge_eq {a b : Dot} (l m : List Dot) (h : a.1 = b.1) : merge (a :: l) (b :: m) = (a.1, a.2, b.2) :: merge l m := by rw [merge, if_neg (by omega), if_neg (by omega)]
end Vec

/-- A box that holds a list of dots, whose cells lie below a bound. -/
def Held (w : World) (N B : Nat) (l : List Dot) : Prop :=
  ∃ p c, w.cell? ⟨B, 0, none⟩ = some (.slice p l.length c) ∧ w.frozen? ⟨B, 0, none⟩ = false ∧ l.length ≤ c ∧ c ≤ maxLen ∧ Dots w p l.length l ∧ ∀ q, p = some q → l ≠ [] → q.block < N

/-- How long the list in a box is. -/
def lenAt (w : World) (B : Nat) : Nat := match w.cell? ⟨B, 0, none⟩ with | some (.slice _ n _) => n | _ => 0
theorem lenAt_eq {w : World} {B n c : Nat} {p : Option Addr} (h : w.cell? ⟨B, 0, none⟩ = some (.slice p n c)) : lenAt w B = n := by unfold lenAt; rw [h]

theorem alloc_frozen (w : World) (cs : Array Value) (e : TypeId) (i : Nat) : (w.alloc (.cells cs e)).frozen? ⟨w.heap.size, i, none⟩ = false := World.frozen?_alloc_at _ _ _ _ rfl

/-- What a round of the iterator tells, as values. -/
def pairV (x : Int × Int × Int) : Array Value := #[.int .i64 x.1, .agg #[.int .i64 x.2.1, .int .i64 x.2.2]]

theorem DotsAt.tail {w : World} {b off : Nat} {d : Dot} {l : List Dot} (h : DotsAt w b off (d :: l)) : DotsAt w b (off + 2) l := fun i hi => by
  have := h (i + 1) (by simp only [List.length_cons]; omega)
  simp only [List.getElem_cons_succ] at this
  rw [show off + 2 + i * 2 = off + (i + 1) * 2 from by omega]
  exact this

theorem DotsAt.of_block {w w' : World} {b off : Nat} {l : List Dot} (h : DotsAt w b off l) (hb : w'.heap[b]? = w.heap[b]?) : DotsAt w' b off l := fun i hi =>
  ⟨(World.cell?_of_block (a := ⟨b, off + i * 2, none⟩) hb).trans (h i hi).1, (World.cell?_of_block (a := ⟨b, off + i * 2 + 1, none⟩) hb).trans (h i hi).2⟩

/-- Held is of the box's block and of those below the bound. -/
theorem Held.kept {w w' : World} {N B : Nat} {l : List Dot} (h : Held w N B l) (hB : w'.heap[B]? = w.heap[B]?) (hN : ∀ k, k < N → w'.heap[k]? = w.heap[k]?) : Held w' N B l := by
  obtain ⟨p, c, h1, h2, h3, h4, ⟨d1, d2, d3, d4⟩, h6⟩ := h
  refine ⟨p, c, (World.cell?_of_block (a := ⟨B, 0, none⟩) hB).trans h1, (World.frozen?_of_block (a := ⟨B, 0, none⟩) hB).trans h2, h3, h4, ⟨d1, d2, d3, ?_⟩, h6⟩
  rcases d4 with d4 | ⟨b, off, rfl, hd⟩
  · exact .inl d4
  · by_cases hl : l = []
    · exact .inl (by rw [hl]; rfl)
    · exact .inr ⟨b, off, rfl, hd.of_block (hN _ (h6 _ rfl hl))⟩

theorem Held.len {w : World} {N B : Nat} {l : List Dot} (h : Held w N B l) : lenAt w B = l.length := by obtain ⟨p, c, h1, _⟩ := h; exact lenAt_eq h1

theorem Held.other {w : World} {N B : Nat} {l : List Dot} (h : Held w N B l) {a : Addr} (v : Value) (h1 : B ≠ a.block) (h2 : N ≤ a.block) : Held (w.setCell a v) N B l :=
  h.kept (Below.heap_setCell _ _ _ _ h1) (fun k hk => Below.heap_setCell _ _ _ _ (by omega))

theorem Held.rest {w : World} {N B : Nat} {d : Dot} {l : List Dot} (h : Held w N B (d :: l)) {bb ob m c : Nat} (hc : w.cell? ⟨B, 0, none⟩ = some (.slice (some ⟨bb, ob, none⟩) m c)) (hNB : N ≤ B) :
    Held (w.setCell ⟨B, 0, none⟩ (.slice (if c = 1 then some ⟨bb, ob, none⟩ else some ⟨bb, ob + 2, none⟩) (m - 1) (c - 1))) N B l := by
  obtain ⟨p, c', h1, h2, h3, h4, ⟨d1, d2, d3, d4⟩, h6⟩ := h
  rw [h1] at hc
  simp only [Option.some.injEq, Value.slice.injEq] at hc
  obtain ⟨rfl, rfl, rfl⟩ := hc
  have hbb := h6 _ rfl (by simp)
  simp only at hbb
  rw [List.length_cons] at h3 d2 d4
  have hm : (d :: l).length - 1 = l.length := by simp
  rw [hm]
  refine ⟨_, _, World.cell?_setCell_same' _ _ _ (by rw [h1]; rfl), by rw [World.frozen?_setCell]; exact h2, by omega, by omega, ⟨rfl, by omega, fun x hx => d3 x (by simp [hx]), ?_⟩, fun q hq _ => ?_⟩
  · by_cases hl : l.length = 0
    · exact .inl hl
    · right
      rw [if_neg (by omega)]
      rcases d4 with d4 | ⟨b, off, hp, hd⟩
      · omega
      · cases hp
        exact ⟨_, _, rfl, hd.tail.of_block (Below.heap_setCell _ _ _ _ (by simp; omega))⟩
  · split at hq
    · cases hq; exact hbb
    · cases hq; exact hbb

/-- A round's world: what is left of both lists, and the two counts in the new block. -/
structure Setup (wr : World) (N Ba Bb G : Nat) (x y : List Dot) (u v : Int) (w : World) : Prop where
  turn : Turned (fun B => B = Ba ∨ B = Bb) wr w
  ha : Held w N Ba x
  hb : Held w N Bb y
  cu : w.cell? ⟨G, 0, none⟩ = some (.int .i64 u)
  cv : w.cell? ⟨G, 1, none⟩ = some (.int .i64 v)
  fu : w.frozen? ⟨G, 0, none⟩ = false
  fv : w.frozen? ⟨G, 1, none⟩ = false
  lo : N ≤ Ba ∧ N ≤ Bb ∧ Ba ≠ Bb ∧ Ba < G ∧ Bb < G ∧ wr.heap.size = G

section
variable {wr w : World} {N Ba Bb G : Nat} {x y : List Dot} {u v : Int} {d : Dot}
theorem Setup.new (h1 : Held wr N Ba x) (h2 : Held wr N Bb y) (hl : N ≤ Ba ∧ N ≤ Bb ∧ Ba ≠ Bb) : Setup wr N Ba Bb wr.heap.size x y 0 0 (wr.alloc (.cells #[.int .i64 0, .int .i64 0] 90)) := by
  have g1 : Ba < wr.heap.size := by obtain ⟨p, c, h, _⟩ := h1; exact lt_of_cell h
  have g2 : Bb < wr.heap.size := by obtain ⟨p, c, h, _⟩ := h2; exact lt_of_cell h
  exact ⟨(Turned.refl _ wr).alloc _, h1.kept (Below.heap_alloc _ _ _ g1) (fun k hk => Below.heap_alloc _ _ _ (by omega)), h2.kept (Below.heap_alloc _ _ _ g2) (fun k hk => Below.heap_alloc _ _ _ (by omega)),
    alloc_cell _ _ _ 0, alloc_cell _ _ _ 1, alloc_frozen _ _ _ 0, alloc_frozen _ _ _ 1, hl.1, hl.2.1, hl.2.2, g1, g2, rfl⟩
theorem Setup.drewN (h : Setup wr N Ba Bb G x y u v w) (k : Nat) : Setup wr N Ba Bb G x y u v (w.drewN k) :=
  ⟨⟨h.turn.os, h.turn.tape, h.turn.output, h.turn.size, h.turn.block⟩, h.ha.kept rfl (fun _ _ => rfl), h.hb.kept rfl (fun _ _ => rfl), h.cu, h.cv, h.fu, h.fv, h.lo⟩
theorem Setup.drew (h : Setup wr N Ba Bb G x y u v w) : Setup wr N Ba Bb G x y u v w.drew := h.drewN 1
theorem Setup.set0 (h : Setup wr N Ba Bb G x y u v w) (k : Int) : Setup wr N Ba Bb G x y k v (w.setCell ⟨G, 0, none⟩ (.int .i64 k)) := by
  obtain ⟨l1, l2, l3, l4, l5, l6⟩ := h.lo
  exact ⟨h.turn.setCell (.inr (by simp <;> omega)) _, h.ha.other _ (by simp <;> omega) (by simp <;> omega), h.hb.other _ (by simp <;> omega) (by simp <;> omega), World.cell?_setCell_same' _ _ _ (by rw [h.cu]; rfl),
    (World.cell?_setCell_other _ _ _ _ (by simp)).trans h.cv, by rw [World.frozen?_setCell]; exact h.fu, by rw [World.frozen?_setCell]; exact h.fv, h.lo⟩
theorem Setup.set1 (h : Setup wr N Ba Bb G x y u v w) (k : Int) : Setup wr N Ba Bb G x y u k (w.setCell ⟨G, 1, none⟩ (.int .i64 k)) := by
  obtain ⟨l1, l2, l3, l4, l5, l6⟩ := h.lo
  exact ⟨h.turn.setCell (.inr (by simp <;> omega)) _, h.ha.other _ (by simp <;> omega) (by simp <;> omega), h.hb.other _ (by simp <;> omega) (by simp <;> omega), (World.cell?_setCell_other _ _ _ _ (by simp)).trans h.cu,
    World.cell?_setCell_same' _ _ _ (by rw [h.cv]; rfl), by rw [World.frozen?_setCell]; exact h.fu, by rw [World.frozen?_setCell]; exact h.fv, h.lo⟩
theorem Setup.restA {bb ob m c : Nat} (h : Setup wr N Ba Bb G (d :: x) y u v w) (hc : w.cell? ⟨Ba, 0, none⟩ = some (.slice (some ⟨bb, ob, none⟩) m c)) :
    Setup wr N Ba Bb G x y u v (w.setCell ⟨Ba, 0, none⟩ (.slice (if c = 1 then some ⟨bb, ob, none⟩ else some ⟨bb, ob + 2, none⟩) (m - 1) (c - 1))) := by
  obtain ⟨l1, l2, l3, l4, l5, l6⟩ := h.lo
  exact ⟨h.turn.setCell (.inl (.inl rfl)) _, h.ha.rest hc l1, h.hb.other _ (by simp <;> omega) (by simp <;> omega), (World.cell?_setCell_other _ _ _ _ (by simp <;> omega)).trans h.cu,
    (World.cell?_setCell_other _ _ _ _ (by simp)).trans h.cv, by rw [World.frozen?_setCell]; exact h.fu, by rw [World.frozen?_setCell]; exact h.fv, h.lo⟩
theorem Setup.restB {bb ob m c : Nat} (h : Setup wr N Ba Bb G x (d :: y) u v w) (hc : w.cell? ⟨Bb, 0, none⟩ = some (.slice (some ⟨bb, ob, none⟩) m c)) :
    Setup wr N Ba Bb G x y u v (w.setCell ⟨Bb, 0, none⟩ (.slice (if c = 1 then some ⟨bb, ob, none⟩ else some ⟨bb, ob + 2, none⟩) (m - 1) (c - 1))) := by
  obtain ⟨l1, l2, l3, l4, l5, l6⟩ := h.lo
  exact ⟨h.turn.setCell (.inl (.inr rfl)) _, h.ha.other _ (by simp <;> omega) (by simp <;> omega), h.hb.rest hc l2, (World.cell?_setCell_other _ _ _ _ (by simp <;> omega)).trans h.cu,
    (World.cell?_setCell_other _ _ _ _ (by simp)).trans h.cv, by rw [World.frozen?_setCell]; exact h.fu, by rw [World.frozen?_setCell]; exact h.fv, h.lo⟩
theorem Setup.intoB {Q : World → Prop} (h : Setup wr N Ba Bb G x (d :: y) u v w) {k bb ob m c : Nat} (hc : w.cell? ⟨Bb, 0, none⟩ = some (.slice (some ⟨bb, ob, none⟩) m c)) {e : Int}
    (hk : ∀ w3, Setup wr N Ba Bb G x y u e w3 → Q w3) :
    Q (((w.drewN k).setCell ⟨G, 1, none⟩ (.int .i64 e)).setCell ⟨Bb, 0, none⟩ (.slice (if c = 1 then some ⟨bb, ob, none⟩ else some ⟨bb, ob + 2, none⟩) (m - 1) (c - 1))) := by
  have h5 := h.lo.2.2.2.2.1
  exact hk _ (((h.drewN k).set1 e).restB ((World.cell?_setCell_other _ _ _ _ (by simp <;> omega)).trans hc))
theorem Setup.intoA {Q : World → Prop} (h : Setup wr N Ba Bb G (d :: x) y u v w) {k bb ob m c : Nat} (hc : w.cell? ⟨Ba, 0, none⟩ = some (.slice (some ⟨bb, ob, none⟩) m c)) {e : Int}
    (hk : ∀ w3, Setup wr N Ba Bb G x y e v w3 → Q w3) :
    Q (((w.drewN k).setCell ⟨G, 0, none⟩ (.int .i64 e)).setCell ⟨Ba, 0, none⟩ (.slice (if c = 1 then some ⟨bb, ob, none⟩ else some ⟨bb, ob + 2, none⟩) (m - 1) (c - 1))) := by
  have h5 := h.lo.2.2.2.1
  exact hk _ (((h.drewN k).set0 e).restA ((World.cell?_setCell_other _ _ _ _ (by simp <;> omega)).trans hc))
theorem Setup.intoE {Q : World → Prop} {f : Dot} (h : Setup wr N Ba Bb G (d :: x) (f :: y) u v w) {k b1 o1 m1 c1 b2 o2 m2 c2 : Nat}
    (hc1 : w.cell? ⟨Ba, 0, none⟩ = some (.slice (some ⟨b1, o1, none⟩) m1 c1)) (hc2 : w.cell? ⟨Bb, 0, none⟩ = some (.slice (some ⟨b2, o2, none⟩) m2 c2)) {e1 e2 : Int}
    (hk : ∀ w3, Setup wr N Ba Bb G x y e1 e2 w3 → Q w3) :
    Q (((((w.drewN k).setCell ⟨G, 0, none⟩ (.int .i64 e1)).setCell ⟨G, 1, none⟩ (.int .i64 e2)).setCell ⟨Ba, 0, none⟩ (.slice (if c1 = 1 then some ⟨b1, o1, none⟩ else some ⟨b1, o1 + 2, none⟩) (m1 - 1) (c1 - 1))).setCell
      ⟨Bb, 0, none⟩ (.slice (if c2 = 1 then some ⟨b2, o2, none⟩ else some ⟨b2, o2 + 2, none⟩) (m2 - 1) (c2 - 1))) := by
  have h3 := h.lo.2.2.1
  have h4 := h.lo.2.2.2.1
  have h5 := h.lo.2.2.2.2.1
  have a1 : (((w.drewN k).setCell ⟨G, 0, none⟩ (.int .i64 e1)).setCell ⟨G, 1, none⟩ (.int .i64 e2)).cell? ⟨Ba, 0, none⟩ = some (.slice (some ⟨b1, o1, none⟩) m1 c1) :=
    (World.cell?_setCell_other _ _ _ _ (by simp)).trans ((World.cell?_setCell_other _ _ _ _ (by simp <;> omega)).trans hc1)
  have a2 : (((w.drewN k).setCell ⟨G, 0, none⟩ (.int .i64 e1)).setCell ⟨G, 1, none⟩ (.int .i64 e2)).cell? ⟨Bb, 0, none⟩ = some (.slice (some ⟨b2, o2, none⟩) m2 c2) :=
    (World.cell?_setCell_other _ _ _ _ (by simp)).trans ((World.cell?_setCell_other _ _ _ _ (by simp <;> omega)).trans hc2)
  exact hk _ (((((h.drewN k).set0 e1).set1 e2).restA a1).restB ((World.cell?_setCell_other _ _ _ _ (by simp <;> omega)).trans a2))
theorem Setup.len (h : Setup wr N Ba Bb G x y u v w) : lenAt w Ba = x.length ∧ lenAt w Bb = y.length := by
  obtain ⟨p, c, h1, _⟩ := h.ha
  obtain ⟨q, e, h2, _⟩ := h.hb
  exact ⟨lenAt_eq h1, lenAt_eq h2⟩
end

/-- What is owed at a round's end. -/
def RoundEnd (l N Ba Bb : Nat) (a b : List Dot) (J : List (Int × Int × Int) → World → Prop) (pre : List (Int × Int × Int)) (m : Nat) (Q : Exit → Act → World → Prop) : Prop :=
  ∀ (x' y' : List Dot) (x1 : Int × Int × Int) (W3 : World) (u4 u5 u6 u7 u8 u9 u10 u11 u12 u13 u14 u15 u16 u17 u18 u19 u20 u21 u22 u23 u24 u25 u26 u27 u28 u29 u30 u31 u32 u33 u34 u35 u36 u37 u38 u39 u40 u41 u42 u43 u44 u45 u46 u47 u48 u49 u50 u51 u52 u53 u54 u55 u56 u57 u58 u59 u60 u61 u62 u63 u64 u65 u66 u67 u68 u69 u70 u71 u72 u73 u74 u75 u76 u77 u78 u79 u80 u81 u82 u83 u84 u85 u86 u87 u88 u89 u90 u91 u92 u93 : Value), Vec.merge a b = (pre ++ [x1]) ++ Vec.merge x' y' → J (pre ++ [x1]) W3 → Held W3 N Ba x' → Held W3 N Bb y' →
      x'.length + y'.length < m → Q .normal { tmps := (.func (.yield l) #[] #[] :: .pointer (some ⟨Ba, 0, none⟩) :: .pointer (some ⟨Bb, 0, none⟩) :: undef :: u4 :: u5 :: u6 :: u7 :: u8 :: u9 :: u10 :: u11 :: u12 :: u13 :: u14 :: u15 :: u16 :: u17 :: u18 :: u19 :: u20 :: u21 :: u22 :: u23 :: u24 :: u25 :: u26 :: u27 :: u28 :: u29 :: u30 :: u31 :: u32 :: u33 :: u34 :: u35 :: u36 :: u37 :: u38 :: u39 :: u40 :: u41 :: u42 :: u43 :: u44 :: u45 :: u46 :: u47 :: u48 :: u49 :: u50 :: u51 :: u52 :: u53 :: u54 :: u55 :: u56 :: u57 :: u58 :: u59 :: u60 :: u61 :: u62 :: u63 :: u64 :: u65 :: u66 :: u67 :: u68 :: u69 :: u70 :: u71 :: u72 :: u73 :: u74 :: u75 :: u76 :: u77 :: u78 :: u79 :: u80 :: u81 :: u82 :: u83 :: u84 :: u85 :: u86 :: u87 :: u88 :: u89 :: u90 :: u91 :: u92 :: u93 :: ([] : List Value)).toArray, defers := [] } W3

/-- The body of a code's first loop. -/
def loopOf : Code → Option Code
  | .loop c => some c
  | .seq a b => (loopOf a).orElse fun _ => loopOf b
  | .block _ c => loopOf c
  | _ => none

/-- A code's region by its number. -/
def regionOf (k : Nat) : Code → Option Code
  | .region id ops b => if id = k then some (.region id ops b) else none
  | .seq a b => (regionOf k a).orElse fun _ => regionOf k b
  | .cond _ a b => (regionOf k a).orElse fun _ => regionOf k b
  | .loop c => regionOf k c
  | .block _ c => regionOf k c
  | _ => none

end Go.Proofs.Ytdgjjlffdfpkcaa
