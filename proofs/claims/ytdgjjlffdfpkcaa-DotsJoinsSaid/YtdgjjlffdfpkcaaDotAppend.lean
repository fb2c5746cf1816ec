/- Dots are appended to a row of one's own, from a slice that may be nil. -/
import Derived.Test.YtdgjjlffdfpkcaaRefGaps
import Derived.Maps.AppendAt
import Derived.Deep.Upon
import Derived.OwnWalk
import Derived.Deep.AppendLies
import Derived.Deep.RegionLaw
namespace Go.Proofs.Ytdgjjlffdfpkcaa
open Go.RowKit

theorem dotCells_len (l : List Dot) : (dotCells l).length = l.length * 2 := by
  induction l with
  | nil => rfl
  | cons e l ih => unfold dotCells at *; rw [List.flatMap_cons, List.length_append, ih, List.length_cons]; simp; omega
theorem dotCells_cat (l m : List Dot) : dotCells (l ++ m) = dotCells l ++ dotCells m := by unfold dotCells; rw [List.flatMap_append]
theorem dotCells_ones (l : List Dot) : ∀ u ∈ dotCells l, u.oneCell' = true := by
  intro u hu
  obtain ⟨d, _, hd⟩ := List.mem_flatMap.1 hu
  simp at hd
  rcases hd with rfl | rfl <;> rfl
theorem dotCells_pos (l : List Dot) (i r : Nat) (hi : i < l.length) (hr : r < 2) : (dotCells l)[i * 2 + r]? = [Value.int .i64 l[i].1, .int .i64 l[i].2][r]? := by
  induction l generalizing i with
  | nil => simp at hi
  | cons e l ih =>
    have e1 : dotCells (e :: l) = [Value.int .i64 e.1, .int .i64 e.2] ++ dotCells l := by unfold dotCells; rw [List.flatMap_cons]
    cases i with
    | zero =>
      rw [e1, Nat.zero_mul, Nat.zero_add, List.getElem?_append_left (by simpa using hr)]
      rfl
    | succ i =>
      rw [e1, List.getElem?_append_right (by simp; omega)]
      simp only [List.length_cons, List.length_nil]
      rw [show (i + 1) * 2 + r - (0 + 1 + 1) = i * 2 + r from by omega, ih i (by simpa using hi)]
      rfl
theorem dots_new {w : World} {b off : Nat} {l : List Dot} (h : DotsAt w b off l) : ∀ j u, (dotCells l)[j]? = some u → w.cell? ((⟨b, off, none⟩ : Addr).add j) = some u := by
  intro j u hu
  have hj : j < l.length * 2 := by have := (List.getElem?_eq_some_iff.1 hu).1; rw [dotCells_len] at this; exact this
  have hi : j / 2 < l.length := by omega
  have := dotCells_pos l (j / 2) (j % 2) hi (Nat.mod_lt _ (by omega))
  rw [show j / 2 * 2 + j % 2 = j by omega] at this
  rw [this] at hu
  obtain ⟨h1, h2⟩ := h (j / 2) hi
  rw [Addr.add_lit]
  have hr : j % 2 = 0 ∨ j % 2 = 1 := by omega
  rcases hr with hr | hr
  · rw [hr] at hu
    rw [show off + j = off + j / 2 * 2 by omega, h1]
    exact hu
  · rw [hr] at hu
    rw [show off + j = off + j / 2 * 2 + 1 by omega, h2]
    exact hu

theorem run_append_dots (w : World) (base : Nat) (ty : TypeId) (v : Value) (xs l : List Dot) (p : Option Addr) (c : Nat) (hown : w.ownsRow base 26 2 v xs.length (dotCells xs)) (hE : l.length = 0 ∨ ∃ b off, p = some ⟨b, off, none⟩ ∧ DotsAt w b off l) (h1 : xs.length ≤ 1000) (h2 : l.length ≤ 1000) (hb : base ≤ w.heap.size) :
    ∃ v' w', (Builtin.append_ #[22, 22] ty #[v, .slice p l.length c]).run Try.prog w = .ok v' w' ∧ w'.ownsRow base 26 2 v' (xs ++ l).length (dotCells (xs ++ l)) ∧ w.grownBy w' v.ownBlock := by
  obtain ⟨i0, hi, hz0, hz1, hz2⟩ := info_parts info_dot'
  by_cases h0 : l.length = 0
  · obtain rfl := List.length_eq_zero_iff.1 h0
    obtain ⟨q, c', rfl⟩ := row_slice hown
    have hle : xs.length ≤ c' := by
      rcases hown.2 with ⟨h, h3⟩ | ⟨g, cap, cur, h, _, _, h5, _⟩
      · omega
      · simp only [Value.slice.injEq] at h; rw [h.2.2]; exact h5
    refine ⟨_, w, run_append_nothing w _ _ ty _ i0 Try.underlying22 hi q xs.length c' hle _ ?_, by rw [List.append_nil]; exact hown, World.grownBy.refl w _⟩
    exact ⟨.inl ⟨_, Try.underlying22⟩, fun w' => by simp [Builtin.lenOf], by cases p <;> simp [Builtin.firstCells, loadCells, loadCellsFrom], by cases p <;> simp [Builtin.firstCells, loadCells, loadCellsFrom], by simp, by simp⟩
  · rcases hE with h4 | ⟨b, off, rfl, hs⟩
    · exact absurd h4 h0
    · obtain ⟨v', w', k1, k2, k3, _⟩ := run_append_own_at (P := Try.prog) w base 22 ty 26 i0 _ 2 16 Try.underlying22 hi hz0 hz1 hz2 rfl (by decide) v xs.length (dotCells xs) hown ⟨b, off, none⟩ l.length c (dotCells l) (dotCells_len l) (dots_new hs) (dotCells_ones l)
        (by unfold maxLen; omega) (by omega) hb
      refine ⟨v', w', k1, ?_, k3⟩
      rw [List.length_append, dotCells_cat]
      exact k2

section
variable {w : World} {ops : Array Oper} {rest : List Oper} {a : Act} {Q : Exit → Act → World → Prop} {dst : Option Tmp} {tp : TypeId} {ps : String} {af : Array Edge}
theorem append_dots_at (s x : Tmp) (base : Nat) (v : Value) (xs l : List Dot) (p : Option Addr) (c n : Nat) (hn : n = l.length) (hs : a.eval (.tmp s) = v) (hx : a.eval (.tmp x) = .slice p n c) (hown : w.ownsRow base 26 2 v xs.length (dotCells xs)) (hE : l.length = 0 ∨ ∃ b off, p = some ⟨b, off, none⟩ ∧ DotsAt w b off l) (h1 : xs.length ≤ 1000) (h2 : l.length ≤ 1000) (hb : base ≤ w.heap.size)
    (h : ∀ v' w', w'.ownsRow base 26 2 v' (xs ++ l).length (dotCells (xs ++ l)) → w.grownBy w' v.ownBlock → wpList Try.prog ops Q rest (a.put dst v') w') :
    wpList Try.prog ops Q ({ dst := dst, op := .call { callee := .builtin .append, args := #[.tmp s, .tmp x], argTypes := #[22, 22] }, type := tp, pos := ps, after := af, guard := none } :: rest) a w := by
  subst hn
  refine wpList_plain rfl fun K hK => ?_
  obtain ⟨v', w', hr, h3, h4⟩ := run_append_dots w base tp v xs l p c hown hE h1 h2 hb
  unfold Oper.wp
  simp [execOp, resolve, invoke, builtin, hs, hx, hr, Result.andThen]
  exact hK _ _ (h v' w' h3 h4)
theorem step_append_dots {o : Oper} {K : Act → World → Prop} {E : Prop} (w : World) (hgd : o.guard = none) (s x : Operand) (ho : o.op = .call { callee := .builtin .append, args := #[s, x], argTypes := #[22, 22] })
    (base : Nat) (v : Value) (xs l : List Dot) (p : Option Addr) (c n : Nat) (hn : n = l.length) (hs : a.eval s = v) (hx : a.eval x = .slice p n c) (hown : w.ownsRow base 26 2 v xs.length (dotCells xs)) (hE : l.length = 0 ∨ ∃ b off, p = some ⟨b, off, none⟩ ∧ DotsAt w b off l) (h1 : xs.length ≤ 1000) (h2 : l.length ≤ 1000) (hb : base ≤ w.heap.size)
    (h : ∀ v' w', w'.ownsRow base 26 2 v' (xs ++ l).length (dotCells (xs ++ l)) → w.grownBy w' v.ownBlock → K (a.put o.dst v') w') :
    if Region.wanted o (yielded ops a.tmps) = true then Oper.wp Try.prog o a w K Q else E := by
  subst hn
  have hw : Region.wanted o (yielded ops a.tmps) = true := by simp [Region.wanted, hgd]
  rw [if_pos hw]
  obtain ⟨v', w', hr, h3, h4⟩ := run_append_dots w base o.type v xs l p c hown hE h1 h2 hb
  unfold Oper.wp execOp
  simp only [ho, resolve, invoke, builtin, Sem.run_bind, Sem.run_pure, Result.andThen_ok, List.map_toArray, List.map_cons, List.map_nil, hs, hx, hr]
  exact h v' w' h3 h4
end
end Go.Proofs.Ytdgjjlffdfpkcaa
