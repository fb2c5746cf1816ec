/- Rows of dots: a copy, a clearing, a store of many cells, in a row of one's own. -/
import Derived.Test.YtdgjjlffdfpkcaaVecMade
import Derived.Shelf.Spec.SlicesInsert
import Derived.Shelf.SlicesE.Clone
import Derived.Lib.AppendZerosOnto
import Derived.Lib.AppendZeros
import Derived.Deep.RegionLaw
import Derived.Laws.CopyRow
namespace Go.Proofs.Ytdgjjlffdfpkcaa
open Go.RowKit Go.Shelf Go.Lib

def Try.cloneDot_ren : Go.Shelf.Ren := ⟨fun | 41 => 55 | n => n, fun | 22 => 22 | 23 => 26 | 4 => 4 | n => n, fun | n => n⟩
theorem Try.cloneDot : Go.Proofs.SlLaysE0.n41 Try.prog Try.cloneDot_ren := {
  mixed := by kernel_rfl,
  f41 := ⟨Try.f55.name, by decide, Try.func55.trans (congrArg some (by kernel_rfl))⟩,
  t4 := Try.underlying4,
  a4 := Try.isAgg4,
  z4 := Try.sizeOf4,
  v4 := Try.zeroValue4,
  t22 := Try.underlying22,
  a22 := Try.isAgg22,
  z22 := Try.sizeOf22,
  v22 := Try.zeroValue22
}

/-- A row behind a store of some cells. -/
def layc (cur : Array Value) (o : Nat) (cs : List Value) : Array Value := (cur.toList.take o ++ cs ++ cur.toList.drop (o + cs.length)).toArray
theorem layc_size (cur : Array Value) (o : Nat) (cs : List Value) (h : o + cs.length ≤ cur.size) : (layc cur o cs).size = cur.size := by
  unfold layc; simp; omega

theorem layc_to (cur : Array Value) (o : Nat) (cs : List Value) (h : o + cs.length ≤ cur.size) : (layc cur o cs).toList.take o = cur.toList.take o := by
  have hl : (cur.toList.take o).length = o := by simp; omega
  unfold layc
  simp only [List.append_assoc]
  rw [List.take_append_of_le_length (by rw [hl]; exact Nat.le_refl _), List.take_of_length_le (by rw [hl]; exact Nat.le_refl _)]
theorem layc_past (cur : Array Value) (o : Nat) (cs : List Value) (h : o + cs.length ≤ cur.size) : (layc cur o cs).toList.take (o + cs.length) = cur.toList.take o ++ cs := by
  have hl : (cur.toList.take o ++ cs).length = o + cs.length := by simp; omega
  unfold layc
  rw [List.take_append_of_le_length (by rw [hl]; exact Nat.le_refl _), List.take_of_length_le (by rw [hl]; exact Nat.le_refl _)]

theorem layc_shift (cur : Array Value) (p : Nat) (x tl : List Value) (h : p + x.length + tl.length ≤ cur.size) : (layc (layc cur (p + x.length) tl) p x).toList.take (p + x.length + tl.length) = cur.toList.take p ++ (x ++ tl) := by
  have hl : (cur.toList.take (p + x.length)).length = p + x.length := by simp; omega
  have h1 : (layc cur (p + x.length) tl).toList.drop (p + x.length) = tl ++ cur.toList.drop (p + x.length + tl.length) := by
    unfold layc
    rw [List.append_assoc]
    exact List.drop_left' hl
  have h2 : (layc cur (p + x.length) tl).toList.take p = cur.toList.take p := by
    unfold layc
    rw [List.append_assoc, List.take_append_of_le_length (by rw [hl]; omega), List.take_take, Nat.min_eq_left (by omega)]
  have h3 : (cur.toList.take p ++ (x ++ tl)).length = p + x.length + tl.length := by simp; omega
  generalize layc cur (p + x.length) tl = C1 at *
  unfold layc
  rw [h1, h2]
  rw [show cur.toList.take p ++ x ++ (tl ++ cur.toList.drop (p + x.length + tl.length)) = (cur.toList.take p ++ (x ++ tl)) ++ cur.toList.drop (p + x.length + tl.length) by simp only [List.append_assoc]]
  exact List.take_left' h3

theorem setCells_row (w : World) (g o : Nat) (t : TypeId) (cur : Array Value) (vs : List Value) (hg : w.heap[g]? = some (.cells cur t (0, 0))) (hfit : o + vs.length ≤ cur.size) (h1 : ∀ v ∈ vs, v.oneCell' = true) :
    w.setCells g o vs = w.setRow g (layc cur o vs) := by
  have a := run_storeCells_at Try.prog g o t vs 0 cur w hg (by simpa using hfit) h1
  have b := run_storeCells_cells (P := Try.prog) g o vs 0 w (fun j hj => by
      have : (w.cell? ⟨g, o + 0 + j, none⟩) = cur[o + 0 + j]? := by unfold World.cell?; simp [hg]
      rw [this, Array.getElem?_eq_getElem (by omega)]; rfl) (fun j _ => by unfold World.frozen?; simp [hg]) h1
  rw [a] at b
  simp only [Nat.add_zero] at b
  injection b with _ b
  exact b.symm

theorem heap_setCells (w : World) (g o : Nat) (t : TypeId) (cur : Array Value) (vs : List Value) (hg : w.heap[g]? = some (.cells cur t (0, 0))) (hfit : o + vs.length ≤ cur.size) (h1 : ∀ v ∈ vs, v.oneCell' = true) :
    (w.setCells g o vs).heap[g]? = some (.cells (layc cur o vs) t (0, 0)) := by
  rw [setCells_row w g o t cur vs hg hfit h1]
  exact setRow_heap w g cur _ t _ hg

theorem grown_setCell (w : World) (g o : Nat) (v : Value) : w.grownBy (w.setCell ⟨g, o, none⟩ v) (some g) :=
  ⟨rfl, rfl, rfl, by rw [World.size_setCell]; exact Nat.le_refl _, fun k _ hk => Below.heap_setCell _ _ _ k (fun e => hk (by rw [e]))⟩

theorem grown_setCells (w : World) (g o : Nat) (vs : List Value) : w.grownBy (w.setCells g o vs) (some g) := by
  induction vs generalizing w o with
  | nil => exact ⟨rfl, rfl, rfl, Nat.le_refl _, fun _ _ _ => rfl⟩
  | cons v vs ih =>
    rw [World.setCells]
    exact (grown_setCell w g o v).trans (ih _ _)

/-- copy, of elements of k cells. -/
theorem run_copy_many (w : World) (dT sT ty elem : TypeId) (k g o dLen dCap : Nat) (a : Addr) (sLen sCap : Nat) (cur : Array Value) (t : TypeId) (cs : List Value)
    (hu : Try.prog.underlying dT = some (.slice elem)) (hs : (Try.prog.info? elem).map (·.size) = some k)
    (hg : w.heap[g]? = some (.cells cur t (0, 0))) (hn : cs.length = Nat.min sLen dLen * k)
    (hsrc : ∀ j v, cs[j]? = some v → w.cell? (a.add j) = some v) (hfit : o + cs.length ≤ cur.size) (h1 : ∀ v ∈ cs, v.oneCell' = true) :
    (Builtin.copy_ #[dT, sT] ty #[.slice (some ⟨g, o, none⟩) dLen dCap, .slice (some a) sLen sCap]).run Try.prog w = .ok (goInt (Nat.min sLen dLen)) (w.setCells g o cs) := by
  have hl := run_loadCells_list (P := Try.prog) w a cs hsrc
  have hst := run_storeCells_at Try.prog g o t cs 0 cur w hg (by simpa using hfit) h1
  rw [setCells_row w g o t cur cs hg hfit h1]
  cases hq : Try.prog.info? elem with
  | none => simp [hq] at hs
  | some i =>
    have hi : i.size = k := by simpa [hq] using hs
    simp [Builtin.copy_, run_underlying hu, Builtin.lenOf, Builtin.firstCells, sizeOf, typeInfo, hq, hi, ← hn, hl, hst, layc]

end Go.Proofs.Ytdgjjlffdfpkcaa
