/- Scripts that are drawn. -/
import Derived.Test.YtcnjklbmlplehaaDrillOp
import Derived.Maps.AppendAt
namespace Go.Proofs.Ytcnjklbmlplehaa
open Go.RowKit

namespace DR
def mixed : ByteArray := ⟨#[104, 100, 99, 104, 119, 98, 98, 98, 97, 98, 98, 97, 98]⟩
def writes : ByteArray := ⟨#[119, 108, 99, 100, 102, 97, 97, 97, 97, 97, 97, 97, 103]⟩
def talks : ByteArray := ⟨#[101, 98, 99, 122, 122, 97, 97, 97, 97, 97, 98, 97, 98]⟩
def storms : ByteArray := ⟨#[103, 99, 102, 104, 115, 102, 103, 103, 102, 104, 104, 99, 98]⟩
def wts (k : Int) : ByteArray := if k = 1 then writes else if k = 2 then talks else if k = 3 then storms else mixed
theorem low_of {t : ByteArray} (h13 : t.size = 13) (h : ∀ i : Fin 13, 97 ≤ (t.get! i.val).toNat ∧ (t.get! i.val).toNat ≤ 122) : Low t :=
  ⟨by omega, by omega, fun i hi => by
    have := h ⟨i, by omega⟩
    have e : t.get! i = t[i]'hi := by
      show t.get! i = _
      simp [ByteArray.get!, getElem!_pos, hi]
      rfl
    simp only at this
    rw [e] at this
    exact this⟩
theorem low_wts (k : Int) : Low (wts k) := by
  unfold wts
  split
  · exact low_of rfl (by decide +kernel)
  split
  · exact low_of rfl (by decide +kernel)
  split
  · exact low_of rfl (by decide +kernel)
  · exact low_of rfl (by decide +kernel)
/-- Operations, one behind the other. -/
def scr (f : Int → OpV × Int) : Nat → Int → List OpV × Int
  | 0, s => ([], s)
  | k + 1, s => ((scr f k s).1 ++ [(f (scr f k s).2).1], (f (scr f k s).2).2)
theorem scr_length (f : Int → OpV × Int) (k : Nat) (s : Int) : (scr f k s).1.length = k := by
  induction k with
  | zero => rfl
  | succ k ih =>
    show ((scr f k s).1 ++ [_]).length = _
    rw [List.length_append, ih]
    rfl
theorem scr_take (f : Int → OpV × Int) (k m : Nat) (s : Int) (h : k ≤ m) : (scr f m s).1.take k = (scr f k s).1 := by
  induction m with
  | zero =>
    obtain rfl : k = 0 := by omega
    rfl
  | succ m ih =>
    by_cases hk : k = m + 1
    · subst hk
      rw [List.take_of_length_le (by rw [scr_length]; exact Nat.le_refl _)]
    · show ((scr f m s).1 ++ [_]).take k = _
      rw [List.take_append_of_le_length (by rw [scr_length]; omega)]
      exact ih (by omega)
def many (m : Int) : Nat := (max 0 (min m 400)).toNat
/-- A script. -/
def script (L : Nat → List Nat) (n : Nat) (seed kind m : Int) : List OpV := (scr (opOf L n (wts kind)) (many m) seed).1
theorem script_length (L : Nat → List Nat) (n : Nat) (seed kind m : Int) : (script L n seed kind m).length = many m := scr_length _ _ _
end DR

def opsCells (l : List OpV) : List Value := l.flatMap fun x => (opCells x).toList
theorem opsCells_length (l : List OpV) : (opsCells l).length = l.length * 8 := by
  induction l with
  | nil => rfl
  | cons e l ih =>
    have : (opsCells (e :: l)).length = 8 + (opsCells l).length := by unfold opsCells; rw [List.flatMap_cons, List.length_append]; rfl
    rw [this, ih, List.length_cons]
    omega
theorem opsCells_app (l : List OpV) (x : OpV) : opsCells (l ++ [x]) = opsCells l ++ (opCells x).toList := by unfold opsCells; rw [List.flatMap_append, List.flatMap_cons, List.flatMap_nil, List.append_nil]
theorem op_one (x : OpV) : ∀ u ∈ (opCells x).toList, u.oneCell' = true := by
  intro u hu
  have : u ∈ [Value.int .i64 x.kind, .int .i64 x.peer, .int .i64 x.to, .int .i64 x.n, .int .i64 x.at_, .int .i64 x.mask, .string x.path, .string x.data] := hu
  simp only [List.mem_cons, List.not_mem_nil, or_false] at this
  rcases this with h | h | h | h | h | h | h | h <;> rw [h] <;> rfl
theorem info_op : (Try.prog.info? 43).map (fun i => (i.zero, i.size, i.bytes)) = some (some (.agg #[.int .i64 0, .int .i64 0, .int .i64 0, .int .i64 0, .int .i64 0, .int .i64 0, .string ⟨#[]⟩, .string ⟨#[]⟩]), 8, 80) := by kernel_rfl
/-- A row of operations that was made behind a world. -/
structure OpR (w W : World) (base : Nat) (v : Value) (out : List OpV) : Prop where
  row : W.ownsRow base 43 8 v out.length (opsCells out)
  ext : Ext w W
theorem cells_new (w : World) (x : OpV) : ∀ j u, (opCells x).toList[j]? = some u → (w.alloc (.cells (opCells x) 43)).cell? ((⟨w.heap.size, 0, none⟩ : Addr).add j) = some u := by
  intro j u hu
  rw [Addr.add_lit, Nat.zero_add, alloc_cell]
  rw [← Array.getElem?_toList]
  exact hu
theorem run_min2' {P : Program} (ts : Array TypeId) (t : TypeId) (x y : Int) (w : World) : (Builtin.min_ ts t #[.int .i64 x, .int .i64 y]).run P w = .ok (.int .i64 (min x y)) w := by
  simp only [Builtin.min_, List.foldlM_cons, List.foldlM_nil, Builtin.min2, Sem.run_bind, Sem.run_pure, Result.andThen]
  rw [show (if y < x then y else x) = min x y by split <;> omega]

set_option maxRecDepth 100000 in
theorem drill_weights (k : Int) (w : World) : Calls Try.prog 19 #[.int .i64 k] w fun e w' => e = .returned (.string (DR.wts k)) ∧ w = w' := by
  unfold DR.wts
  by_cases h1 : k = 1
  · subst h1
    go_enter Try.func19, Try.ntmps19
    go_wp2
    go_ret
    exact ⟨rfl, rfl⟩
  rw [if_neg h1]
  by_cases h2 : k = 2
  · subst h2
    go_enter Try.func19, Try.ntmps19
    go_wp2
    go_ret
    exact ⟨rfl, rfl⟩
  rw [if_neg h2]
  by_cases h3 : k = 3
  · subst h3
    go_enter Try.func19, Try.ntmps19
    go_wp2
    go_ret
    exact ⟨rfl, rfl⟩
  rw [if_neg h3]
  have f1 := ne_false h1
  have f2 := ne_false h2
  have f3 := ne_false h3
  go_enter Try.func19, Try.ntmps19
  go_wp2
  go_ret
  exact ⟨rfl, rfl⟩

set_option maxRecDepth 100000 in
theorem drill_script_nil (seed kind m : Int) (w : World) : Calls Try.prog 10 #[.int .i64 seed, .int .i64 kind, .int .i64 m, .pointer none] w fun e w' => e = .returned (.slice none 0 0) ∧ w = w' := by
  go_enter Try.func10, Try.ntmps10
  go_wp2
  go_ret
  exact ⟨rfl, rfl⟩

set_option maxRecDepth 100000 in
set_option maxHeartbeats 2000000 in
theorem drill_script (seed kind m : Int) (B n c : Nat) (adj : Nat → Nat → Bool) (pt : Option Addr) (w : World) (hG : GraphAt w B n adj pt c) :
    Calls Try.prog 10 #[.int .i64 seed, .int .i64 kind, .int .i64 m, .pointer (some ⟨B, 0, none⟩)] w fun e w' => ∃ v, e = .returned v ∧ OpR w w' (w.heap.size + 1) v (DR.script (GR.near n adj) n seed kind m) := by
  obtain ⟨i0, hi, hz0, hz1, hz2⟩ := info_parts info_op
  have Hi := Lib.hid hi
  have hop := fun s W (hW : Ext w W) (hd : Drawer W w.heap.size s (.pointer (some ⟨B, 0, none⟩))) => draw_op w.heap.size s B n c adj pt (DR.wts kind) (DR.low_wts kind) w W hG hW (Nat.le_refl _) hd
  have hmany : (max 0 (min m 400)) = (DR.many m : Nat) := by unfold DR.many; omega
  have hm4 : DR.many m ≤ 400 := by unfold DR.many; omega
  have hmin : ∀ w, (Builtin.min_ #[3, 3] 3 #[.int .i64 m, .int .i64 400]).run Try.prog w = .ok (.int .i64 (min m 400)) w := fun w => run_min2' _ _ _ _ _
  have HWT := Lib.hid (fun W => drill_weights kind W)
  unfold DR.script
  generalize DR.wts kind = t at *
  generalize DR.many m = N at *
  generalize hf : DR.opOf (GR.near n adj) n t = f at *
  have HOP := Lib.hid hop
  have hd0 : Drawer (w.alloc (.cells #[.int .i64 seed, .pointer (some ⟨B, 0, none⟩)] 50)) w.heap.size seed (.pointer (some ⟨B, 0, none⟩)) := Two.new w _ _ _
  have hx0 : Ext w (w.alloc (.cells #[.int .i64 seed, .pointer (some ⟨B, 0, none⟩)] 50)) := (Ext.refl w).alloc _
  have HD0 := Lib.hid hd0
  have HX0 := Lib.hid hx0
  have hs0 : w.heap.size + 1 ≤ (w.alloc (.cells #[.int .i64 seed, .pointer (some ⟨B, 0, none⟩)] 50)).heap.size := by rw [World.size_alloc]; omega
  have HS0 := Lib.hid hs0
  clear hop hf hd0 hx0 hi hG hs0
  go_enter Try.func10, Try.ntmps10
  go_wp2_with fail
  go_loopw [9, 21] (fun ov i W => ∃ (k : Nat) (s : Int) (out : List OpV), k ≤ N ∧ i = .int .i64 k ∧ OpR w W (w.heap.size + 1) ov out ∧ Drawer W w.heap.size s (.pointer (some ⟨B, 0, none⟩)) ∧ Hid (DR.scr f k seed = (out, s))) (fun _ i _ => N - (intOf i).toNat)
  case atStart => exact ⟨0, seed, [], by omega, rfl, ⟨World.ownsRow_nil _ _ _ _, HX0.out⟩, HD0.out, Lib.hid rfl⟩
  case round =>
    clear HD0 HX0 HS0
    obtain ⟨k, s, out, hk, rfl, hI, hd, HSC⟩ := hrel
    have hlen : out.length = k := by
      have := DR.scr_length f k seed
      rw [HSC.out] at this
      exact this
    obtain ⟨p1, q1, rfl⟩ := row_slice hI.row
    by_cases hlt : k < N
    · have HC := Lib.hid (HOP.out s wr hI.ext hd)
      have hnx : DR.scr f (k + 1) seed = (out ++ [(f s).1], (f s).2) := by
        show ((DR.scr f k seed).1 ++ [_], _) = _
        rw [HSC.out]
      obtain ⟨⟨⟨y0, y1, y2, y3, y4, y5, y6, y7⟩, s9⟩, hz⟩ : ∃ z, f s = z := ⟨_, rfl⟩
      rw [hz] at HC hnx
      have HC2 : Hid (Calls Try.prog 18 #[.pointer (some ⟨w.heap.size, 0, none⟩), .string t] wr fun e w' => e = .returned (.agg #[.int .i64 y0, .int .i64 y1, .int .i64 y2, .int .i64 y3, .int .i64 y4, .int .i64 y5, .string y6, .string y7]) ∧ Drawer w' w.heap.size s9 (.pointer (some ⟨B, 0, none⟩)) ∧ wr.grownBy w' (some w.heap.size)) := HC
      have HNX := Lib.hid hnx
      have HI := Lib.hid hI
      rw [hlen]
      have HLEN := Lib.hid hlen
      clear HC hz hnx hI hd hlen
      go_wp2_with fail
      refine (HWT.out _).mono ?_
      rintro e w1 ⟨rfl, rfl⟩
      go_wp2_with fail
      refine HC2.out.mono ?_
      rintro e w2 ⟨rfl, hd2, hg2⟩
      have hne : Value.ownBlock (.slice p1 out.length q1) ≠ some w.heap.size := fun ej => by have h5 := HI.out.row.lt _ ej; omega
      have hrow2 := row_grown HI.out.row hg2 hne
      have hx2 := ext_grownBy HI.out.ext hg2 (Nat.le_refl _)
      have hrow3 := row_to hrow2 ((Ext.refl w2).alloc (.cells (opCells ⟨y0, y1, y2, y3, y4, y5, y6, y7⟩) 43))
      rw [HLEN.out] at hrow3
      have HROW := Lib.hid hrow3
      have HX3 := Lib.hid (hx2.alloc (.cells (opCells ⟨y0, y1, y2, y3, y4, y5, y6, y7⟩) 43))
      have HD3 := Lib.hid (Two.ext hd2 ((Ext.refl w2).alloc (.cells (opCells ⟨y0, y1, y2, y3, y4, y5, y6, y7⟩) 43)))
      have HNEW := Lib.hid (cells_new w2 ⟨y0, y1, y2, y3, y4, y5, y6, y7⟩)
      have HS3 := Lib.hid (World.size_alloc w2 (.cells (opCells ⟨y0, y1, y2, y3, y4, y5, y6, y7⟩) 43))
      have HS4 := Lib.hid hx2.size
      clear hrow2 hrow3 hx2 hd2 hg2 hne HI
      go_wp2_with (at_builtin; refine wpList_append_own_at _ rfl _ _ 22 rfl (w.heap.size + 1) 43 i0 (.agg #[.int .i64 0, .int .i64 0, .int .i64 0, .int .i64 0, .int .i64 0, .int .i64 0, .string ⟨#[]⟩, .string ⟨#[]⟩]) 8 80 Try.underlying22 Hi.out hz0 hz1 hz2 rfl (by decide) _ _ _ rfl HROW.out ⟨w2.heap.size, 0, none⟩ 1 1 (opCells ⟨y0, y1, y2, y3, y4, y5, y6, y7⟩).toList rfl rfl HNEW.out (op_one _) (by unfold maxLen; omega) (by omega) (by have h1 := HS3.out; have h2 := HS4.out; simp only [opCells] at h1; omega) ?_; intro v' w6 hown' hgrow _ _)
      go_roundw
      case rel =>
        refine ⟨k + 1, s9, out ++ [⟨y0, y1, y2, y3, y4, y5, y6, y7⟩], by omega, by go_num, ⟨?_, ext_grownV HX3.out HROW.out hgrow (by omega)⟩, Two.grownV HD3.out HROW.out hgrow (by omega), HNX⟩
        rw [opsCells_app, List.length_append, HLEN.out]
        exact hown'
      case measure => simp [intOf]; omega
    · obtain rfl : k = N := by omega
      have HI := Lib.hid hI
      clear hI hd
      go_wp2
      go_ret
      rw [HSC.out]
      exact ⟨_, rfl, HI.out⟩
end Go.Proofs.Ytcnjklbmlplehaa
