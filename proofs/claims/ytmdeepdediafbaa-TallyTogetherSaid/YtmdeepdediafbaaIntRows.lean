/- Two rows of numbers are compared: whether they are the same, number by number. -/
import Derived.Deep.MidRow
import Derived.ChangeKeysEq
import Derived.Laws.StructEq
import Derived.Tactics
namespace Go.Proofs.Ytmdeepdediafbaa

section
variable {P : Program} {w : World}

theorem run_part_int {e : TypeId} {kd : IntKind} {xs : Array Value} {k : Nat} {v : Value} (he : P.underlying e = some (.int kd)) (h : xs[k]? = some v) : (part e xs k).run P w = .ok v w := by
  simp [part, isAgg, run_underlying he, h]

theorem run_equal_int (d : Nat) {e : TypeId} (he : P.underlying e = some (.int .i64)) (a b : Int) : (Op.equalIn (d + 1) e (.int .i64 a) (.int .i64 b)).run P w = .ok (a == b) w := by
  simp [Op.equalIn, run_underlying he]

theorem run_eqItems_ints (d : Nat) {e : TypeId} (he : P.underlying e = some (.int .i64)) (xs ys : Array Value) (x y : Nat → Int) : ∀ is : List Nat, (∀ i ∈ is, xs[i]? = some (.int .i64 (x i)) ∧ ys[i]? = some (.int .i64 (y i))) →
    (Op.eqItems (d + 1) e 1 xs ys is).run P w = .ok (decide (∀ i ∈ is, x i = y i)) w
  | [], _ => by simp [Op.eqItems]
  | i :: is, h => by
    obtain ⟨h1, h2⟩ := h i (List.mem_cons_self ..)
    have ih := run_eqItems_ints d he xs ys x y is fun j hj => h j (List.mem_cons_of_mem _ hj)
    simp only [Op.eqItems, Sem.run_bind, Nat.mul_one, run_part_int he h1, run_part_int he h2, Result.andThen_ok, run_equal_int d he]
    by_cases hxy : x i = y i
    · simp [hxy, ih]
    · simp [hxy]

/-- Are the first n numbers the same? -/
def eqRows (x y : Nat → Int) (n : Nat) : Bool := decide (∀ j ∈ List.range n, x j = y j)
theorem eqRows_true {x y : Nat → Int} {n : Nat} : eqRows x y n = true ↔ ∀ j, j < n → x j = y j := by
  unfold eqRows
  rw [decide_eq_true_iff]
  exact ⟨fun h j hj => h j (List.mem_range.2 hj), fun h j hj => h j (List.mem_range.1 hj)⟩

theorem run_eql_rows {t e : TypeId} {n : Nat} {i : TypeInfo} (hu : P.underlying t = some (.array n e)) (he : P.underlying e = some (.int .i64)) (hi : P.info? e = some i) (hc : P.cellsOf e = 1) (xs ys : Array Value) (x y : Nat → Int)
    (hx : ∀ j, j < n → xs[j]? = some (.int .i64 (x j))) (hy : ∀ j, j < n → ys[j]? = some (.int .i64 (y j))) :
    (binOp .eql t (.agg xs) (.agg ys)).run P w = .ok (.bool (eqRows x y n)) w := by
  unfold eqRows
  have h := run_equalIn_array (P := P) (w := w) 9999 xs ys hu hi
  rw [hc, run_eqItems_ints 9998 he xs ys x y _ (fun j hj => ⟨hx j (List.mem_range.1 hj), hy j (List.mem_range.1 hj)⟩)] at h
  simp only [binOp, Op.equal, Op.maxDepth, Sem.run_bind]
  rw [h]
  simp

variable {ops : Array Oper} {rest : List Oper} {a : Act} {Q : Exit → Act → World → Prop} {dst : Option Tmp} {tp tq : TypeId} {ps : String} {af : Array Edge} {gd : Option (Nat × Bool)}
/-- Two rows in two slots, compared, where the guard lets it. -/
theorem eql_rows_gd {t e : TypeId} {n : Nat} {i : TypeInfo} (p q : Tmp) (hw : Region.wanted { dst := dst, op := .binOp .eql t (.tmp p) (.tmp q) tq, type := tp, pos := ps, after := af, guard := gd } (yielded ops a.tmps) = true)
    (xs ys : Array Value) (hp : a.eval (.tmp p) = .agg xs) (hq : a.eval (.tmp q) = .agg ys)
    (hu : P.underlying t = some (.array n e)) (he : P.underlying e = some (.int .i64)) (hi : P.info? e = some i) (hc : P.cellsOf e = 1) (hm : P.eqGuardType P.depth t = false) (x y : Nat → Int)
    (hx : ∀ j, j < n → xs[j]? = some (.int .i64 (x j))) (hy : ∀ j, j < n → ys[j]? = some (.int .i64 (y j)))
    (h : wpList P ops Q rest (a.put dst (.bool (eqRows x y n))) w) : wpList P ops Q ({ dst := dst, op := .binOp .eql t (.tmp p) (.tmp q) tq, type := tp, pos := ps, after := af, guard := gd } :: rest) a w := by
  rw [wpList, if_pos hw]
  refine .inl ?_
  unfold Oper.wp execOp
  simp only [hp, hq, Sem.run_bind, run_eqGuard_agg (hm := hm), run_eql_rows hu he hi hc xs ys x y hx hy, Result.andThen_ok, Sem.run_pure]
  exact h
end

end Go.Proofs.Ytmdeepdediafbaa
