/- What Join of two vectors answers. -/
import Derived.Test.YtdgjjlffdfpkcaaVecPairs
import Derived.Test.YtdgjjlffdfpkcaaVecRight
import Derived.Maps.AppendAt
namespace Go.Proofs.Ytdgjjlffdfpkcaa
open Go.RowKit Go.Shelf
attribute [local go_sem] Oper.semAt_some

namespace Vec
/-- The dots of pairs of counts, of the greater one each. -/
def maxes (l : List (Int × Int × Int)) : List Dot := l.filterMap fun x => if 0 < max x.2.1 x.2.2 then some (x.1, max x.2.1 x.2.2) else none
/-- What two lists come to. -/
def joinL (a b : List Dot) : List Dot := if checkE (-1) a = 0 ∧ checkE (-1) b = 0 then maxes (merge a b) else []
theorem maxes_nil : maxes [] = [] := rfl
theorem maxes_some (pre : List (Int × Int × Int)) (x : Int × Int × Int) (h : 0 < max x.2.1 x.2.2) : maxes (pre ++ [x]) = maxes pre ++ [(x.1, max x.2.1 x.2.2)] := by
  unfold maxes; rw [List.filterMap_append]; simp [h]
theorem maxes_none (pre : List (Int × Int × Int)) (x : Int × Int × Int) (h : ¬ 0 < max x.2.1 x.2.2) : maxes (pre ++ [x]) = maxes pre := by
  unfold maxes; rw [List.filterMap_append]; simp [h]
theorem maxes_length (l : List (Int × Int × Int)) : (maxes l).length ≤ l.length := List.length_filterMap_le _ _
theorem merge_length (a b : List Dot) : (merge a b).length ≤ a.length + b.length := by
  fun_induction merge a b <;> simp only [List.length_cons, List.length_nil] at * <;> omega
end Vec

/-- The cells of a list of dots. -/
def dotCells (l : List Dot) : List Value := l.flatMap fun d => [.int .i64 d.1, .int .i64 d.2]
theorem dotCells_length (l : List Dot) : (dotCells l).length = l.length * 2 := by
  induction l with
  | nil => rfl
  | cons d l ih => unfold dotCells at *; rw [List.flatMap_cons, List.length_append, ih]; simp; omega
theorem dotCells_app (l : List Dot) (d : Dot) : dotCells (l ++ [d]) = dotCells l ++ [.int .i64 d.1, .int .i64 d.2] := by unfold dotCells; rw [List.flatMap_append]; simp
theorem dotCells_at (l : List Dot) (i : Nat) (h : i < l.length) : (dotCells l)[i * 2]? = some (.int .i64 l[i].1) ∧ (dotCells l)[i * 2 + 1]? = some (.int .i64 l[i].2) := by
  induction l generalizing i with
  | nil => simp at h
  | cons d l ih =>
    cases i with
    | zero => constructor <;> rfl
    | succ i =>
      have := ih i (by simpa using h)
      have e : dotCells (d :: l) = [.int .i64 d.1, .int .i64 d.2] ++ dotCells l := by unfold dotCells; rw [List.flatMap_cons]
      rw [e, List.getElem?_append_right (by simp; omega), List.getElem?_append_right (by simp; omega)]
      simp only [List.length_cons, List.length_nil, List.getElem_cons_succ]
      rw [show (i + 1) * 2 - (0 + 1 + 1) = i * 2 from by omega, show (i + 1) * 2 + 1 - (0 + 1 + 1) = i * 2 + 1 from by omega]
      exact this

/-- A value that is a slice of dots. -/
def DotsV (w : World) (v : Value) (l : List Dot) : Prop := ∃ p c, v = .slice p l.length c ∧ l.length ≤ c ∧ c ≤ maxLen ∧ Dots w p l.length l
theorem DotsV.ext {w w' : World} {v : Value} {l : List Dot} (h : DotsV w v l) (he : Ext w w') : DotsV w' v l := by
  obtain ⟨p, c, h1, h2, h3, h4⟩ := h; exact ⟨p, c, h1, h2, h3, h4.ext he⟩

theorem row_dots {W : World} {base : Nat} {e : TypeId} {v : Value} {l : List Dot} (h : W.ownsRow base e 2 v l.length (dotCells l)) (hf : ∀ d ∈ l, Fit d) (hl : l.length ≤ 70368744177664) : DotsV W v l := by
  rcases h.2 with ⟨rfl, h0⟩ | ⟨g, cap, cur, rfl, hb, hg, hn, hc, hs, hx⟩
  · have : l = [] := List.length_eq_zero_iff.1 h0
    subst this
    exact ⟨none, 0, rfl, by simp, by unfold maxLen; omega, rfl, by simp, by simp, .inl rfl⟩
  · refine ⟨_, cap, rfl, hn, hc, rfl, hl, hf, .inr ⟨g, 0, rfl, fun i hi => ?_⟩⟩
    have h1 := dotCells_at l i hi
    rw [Nat.zero_add]
    have k1 := h.cellAt (i * 2) (by omega)
    have k2 := h.cellAt (i * 2 + 1) (by omega)
    rw [k1, k2]
    simpa using h1

theorem cell_two_new (w : World) (x y : Value) (t : TypeId) : ∀ j u, [x, y][j]? = some u → (w.alloc (.cells #[x, y] t)).cell? ((⟨w.heap.size, 0, none⟩ : Addr).add j) = some u := by
  intro j u hj
  match j, hj with
  | 0, hj =>
    simp at hj
    subst hj
    simp [Addr.add]
  | 1, hj =>
    simp at hj
    subst hj
    simp [Addr.add]

theorem keeps_of_ext {W W' : World} (h : Ext W W') : KeepsOthers W W' := by
  refine ⟨h.size, fun k o hk _ => ?_⟩
  rw [h.block (Array.getElem?_eq_some_iff.1 hk).1]; exact hk

set_option maxRecDepth 100000 in
theorem vec_max (x y : Int) (w : World) : Calls Try.prog 59 #[.int .i64 x, .int .i64 y] w fun e w' => e = .returned (.int .i64 (max x y)) ∧ w = w' := by
  go_enter Try.func59, Try.ntmps59
  go_wp2
  all_goals
    go_ret
    refine ⟨?_, rfl⟩
    simp
    omega

set_option maxRecDepth 100000 in
/-- pairs(a, b): both are boxed; the function value captures the boxes. -/
theorem pairs_any (p q : Option Addr) (n1 c1 n2 c2 : Nat) (w : World) :
    Calls Try.prog 71 #[.slice p n1 c1, .slice q n2 c2] w fun e w' => e = .returned (.func (.func 84) #[] #[.pointer (some ⟨w.heap.size, 0, none⟩), .pointer (some ⟨w.heap.size + 1, 0, none⟩)]) ∧
      w' = (w.alloc (.cells #[.slice p n1 c1] 22)).alloc (.cells #[.slice q n2 c2] 22) := by
  have hmf : ∀ (fn : Fn) (first cap : Array Value) (w : World), (Instr.makeFunc fn first cap).run Try.prog w = .ok (.func fn first cap) w := fun _ _ _ _ => rfl
  go_enter Try.func71, Try.ntmps71
  go_wp2
  go_ret
  exact ⟨rfl, rfl⟩

/-- What pairs(a, b) hands back tells both lists' peers. -/
theorem pairs_seq (N Ba Bb n : Nat) (a b : List Dot) (w : World) (hlo : N ≤ Ba ∧ N ≤ Bb ∧ Ba ≠ Bb) (ha : Held w N Ba a) (hb : Held w N Bb b) :
    SeqTu Fence.wide n Try.prog 84 #[.pointer (some ⟨Ba, 0, none⟩), .pointer (some ⟨Bb, 0, none⟩)] pairV (fun B => B = Ba ∨ B = Bb) (fun B => B < N ∨ B = Ba ∨ B = Bb) (Vec.merge a b) w := by
  intro l J W hJt hY h0 hs hB
  exact pairs1_in l N Ba Bb a b J n W hlo hJt hY h0 (ha.kept (hB _ (.inr (.inl rfl))) fun k hk => hB k (.inl hk)) (hb.kept (hB _ (.inr (.inr rfl))) fun k hk => hB k (.inl hk))

end Go.Proofs.Ytdgjjlffdfpkcaa
