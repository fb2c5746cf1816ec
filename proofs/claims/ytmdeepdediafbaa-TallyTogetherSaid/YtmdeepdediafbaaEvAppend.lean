/- Events are appended to a row of one's own. -/
import Derived.Test.YtmdeepdediafbaaTallyWith
import Derived.Maps.AppendAt
import Derived.Deep.Upon
import Derived.OwnWalk
namespace Go.Proofs.Ytmdeepdediafbaa
open Go.RowKit

/-- The cells of a list of events. -/
def evCells (l : List Ev) : List Value := l.flatMap Ev.cells
theorem evCells_length (l : List Ev) : (evCells l).length = l.length * 12 := by
  induction l with
  | nil => rfl
  | cons e l ih => unfold evCells at *; rw [List.flatMap_cons, List.length_append, ih, Ev.cells_length, List.length_cons]; omega
theorem evCells_app (l m : List Ev) : evCells (l ++ m) = evCells l ++ evCells m := by unfold evCells; rw [List.flatMap_append]
theorem evCells_at (l : List Ev) (i r : Nat) (hi : i < l.length) (hr : r < 12) : (evCells l)[i * 12 + r]? = l[i].cells[r]? := by
  induction l generalizing i with
  | nil => simp at hi
  | cons e l ih =>
    have e1 : evCells (e :: l) = e.cells ++ evCells l := by unfold evCells; rw [List.flatMap_cons]
    cases i with
    | zero =>
      rw [e1, Nat.zero_mul, Nat.zero_add, List.getElem?_append_left (by rw [Ev.cells_length]; exact hr)]
      rfl
    | succ i =>
      rw [e1, List.getElem?_append_right (by rw [Ev.cells_length]; omega), Ev.cells_length, show (i + 1) * 12 + r - 12 = i * 12 + r from by omega, ih i (by simpa using hi)]
      rfl
theorem evCells_one (l : List Ev) : ∀ u ∈ evCells l, u.oneCell' = true := by
  intro u hu
  obtain ⟨e, _, hu⟩ := List.mem_flatMap.1 hu
  exact e.one u hu
theorem evs_news {w : World} {b off : Nat} {l : List Ev} (h : EvsAt w b off l) : ∀ j u, (evCells l)[j]? = some u → w.cell? ((⟨b, off, none⟩ : Addr).add j) = some u := by
  intro j u hu
  have hj : j < l.length * 12 := by have := (List.getElem?_eq_some_iff.1 hu).1; rw [evCells_length] at this; exact this
  have hi : j / 12 < l.length := by omega
  have := evCells_at l (j / 12) (j % 12) hi (Nat.mod_lt _ (by omega))
  rw [show j / 12 * 12 + j % 12 = j by omega] at this
  rw [this] at hu
  have := h (j / 12) hi (j % 12) u hu
  rw [add_none]
  rw [show off + j = off + j / 12 * 12 + j % 12 by omega]
  exact this

theorem row_events {W : World} {base : Nat} {e : TypeId} {v : Value} {l : List Ev} (h : W.ownsRow base e 12 v l.length (evCells l)) (hf : ∀ e ∈ l, e.Fits) (hl : l.length ≤ 1000000) : ∃ p c, v = .slice p l.length c ∧ Events W p l.length l := by
  rcases h.2 with ⟨rfl, h0⟩ | ⟨g, cap, cur, rfl, hb, hg, hn, hc, hs, hx⟩
  · have : l = [] := List.length_eq_zero_iff.1 h0
    subst this
    exact ⟨none, 0, rfl, rfl, by unfold maxLen; simp, by simp, .inl rfl⟩
  · refine ⟨_, cap, rfl, rfl, by unfold maxLen; omega, hf, .inr ⟨g, 0, rfl, fun i hi j u hu => ?_⟩⟩
    have hj : j < 12 := by have := (List.getElem?_eq_some_iff.1 hu).1; rw [Ev.cells_length] at this; exact this
    have h1 := evCells_at l i j hi hj
    rw [Nat.zero_add, h.cellAt (i * 12 + j) (by omega), h1]
    exact hu

theorem info_ev : (Try.prog.info? 49).map (fun i => (i.zero, i.size, i.bytes)) = some (some (.agg #[.int .i64 0, .int .i64 0, .int .i64 0, .int .i64 0, .int .i64 0, .int .i64 0, .int .i64 0, .string ⟨#[]⟩, .string ⟨#[]⟩, .int .i64 0, .int .i64 0, .int .i64 0]), 12, 112) := by kernel_rfl

theorem run_append_evs (w : World) (base : Nat) (ty : TypeId) (v : Value) (xs l : List Ev) (p : Option Addr) (c : Nat) (hown : w.ownsRow base 49 12 v xs.length (evCells xs)) (hE : Events w p l.length l) (h1 : xs.length ≤ 1000) (h2 : l.length ≤ 1000) (hb : base ≤ w.heap.size) :
    ∃ v' w', (Builtin.append_ #[22, 22] ty #[v, .slice p l.length c]).run Try.prog w = .ok v' w' ∧ w'.ownsRow base 49 12 v' (xs ++ l).length (evCells (xs ++ l)) ∧ w.grownBy w' v.ownBlock := by
  obtain ⟨i0, hi, hz0, hz1, hz2⟩ := info_parts info_ev
  by_cases h0 : l.length = 0
  · obtain rfl := List.length_eq_zero_iff.1 h0
    obtain ⟨q, c', rfl⟩ := ownsRow_isSlice hown
    have hle : xs.length ≤ c' := by
      rcases hown.2 with ⟨h, h3⟩ | ⟨g, cap, cur, h, _, _, h5, _⟩
      · omega
      · simp only [Value.slice.injEq] at h; rw [h.2.2]; exact h5
    refine ⟨_, w, run_append_nothing w _ _ ty _ i0 Try.underlying22 hi q xs.length c' hle _ ?_, by rw [List.append_nil]; exact hown, World.grownBy.refl w _⟩
    exact ⟨.inl ⟨_, Try.underlying22⟩, fun w' => by simp [Builtin.lenOf], by cases p <;> simp [Builtin.firstCells, loadCells, loadCellsFrom], by cases p <;> simp [Builtin.firstCells, loadCells, loadCellsFrom], by simp, by simp⟩
  · obtain ⟨_, _, _, h4 | ⟨b, off, rfl, hs⟩⟩ := hE
    · exact absurd h4 h0
    · obtain ⟨v', w', k1, k2, k3, _⟩ := run_append_own_at (P := Try.prog) w base 22 ty 49 i0 _ 12 112 Try.underlying22 hi hz0 hz1 hz2 rfl (by decide) v xs.length (evCells xs) hown ⟨b, off, none⟩ l.length c (evCells l) (evCells_length l) (evs_news hs) (evCells_one l)
        (by unfold maxLen; omega) (by omega) hb
      refine ⟨v', w', k1, ?_, k3⟩
      rw [List.length_append, evCells_app]
      exact k2

section
variable {w : World} {ops : Array Oper} {rest : List Oper} {a : Act} {Q : Exit → Act → World → Prop} {dst : Option Tmp} {tp : TypeId} {ps : String} {af : Array Edge}
theorem append_evs_at (s x : Tmp) (base : Nat) (v : Value) (xs l : List Ev) (p : Option Addr) (c n : Nat) (hn : n = l.length) (hs : a.eval (.tmp s) = v) (hx : a.eval (.tmp x) = .slice p n c) (hown : w.ownsRow base 49 12 v xs.length (evCells xs)) (hE : Events w p l.length l) (h1 : xs.length ≤ 1000) (h2 : l.length ≤ 1000) (hb : base ≤ w.heap.size)
    (h : ∀ v' w', w'.ownsRow base 49 12 v' (xs ++ l).length (evCells (xs ++ l)) → w.grownBy w' v.ownBlock → wpList Try.prog ops Q rest (a.put dst v') w') :
    wpList Try.prog ops Q ({ dst := dst, op := .call { callee := .builtin .append, args := #[.tmp s, .tmp x], argTypes := #[22, 22] }, type := tp, pos := ps, after := af, guard := none } :: rest) a w := by
  subst hn
  refine wpList_plain rfl fun K hK => ?_
  obtain ⟨v', w', hr, h3, h4⟩ := run_append_evs w base tp v xs l p c hown hE h1 h2 hb
  unfold Oper.wp
  simp [execOp, resolve, invoke, builtin, hs, hx, hr, Result.andThen]
  exact hK _ _ (h v' w' h3 h4)
end

end Go.Proofs.Ytmdeepdediafbaa
