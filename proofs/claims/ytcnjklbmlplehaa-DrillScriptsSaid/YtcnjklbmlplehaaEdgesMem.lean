/- Edges in memory: pairs of numbers in rows; the law's own copy of edges. -/
import Derived.Test.YtcnjklbmlplehaaGraphFns
import Derived.Deep.AppendLies
import Derived.Deep.RegionLaw
import Derived.BigQuiet
namespace Go.Proofs.Ytcnjklbmlplehaa
open Go.RowKit

/-- The cells of a block, from a place on, hold pairs of numbers. -/
def EdsAt (w : World) (b off : Nat) (l : List GR.Ed) : Prop :=
  ∀ i (h : i < l.length), w.cell? ⟨b, off + i * 2, none⟩ = some (.int .i64 l[i].1) ∧ w.cell? ⟨b, off + i * 2 + 1, none⟩ = some (.int .i64 l[i].2)
theorem EdsAt.ext {w w' : World} {b off : Nat} {l : List GR.Ed} (h : EdsAt w b off l) (he : Ext w w') : EdsAt w' b off l :=
  fun i hi => ⟨he.cell (h i hi).1, he.cell (h i hi).2⟩
/-- A slice of edges. -/
def EdsV (w : World) (v : Value) (l : List GR.Ed) : Prop := ∃ p c, v = .slice p l.length c ∧ l.length ≤ 70368744177664 ∧ (l.length = 0 ∨ ∃ b off, p = some ⟨b, off, none⟩ ∧ EdsAt w b off l)
theorem EdsV.ext {w w' : World} {v : Value} {l : List GR.Ed} (h : EdsV w v l) (he : Ext w w') : EdsV w' v l := by
  obtain ⟨p, c, h1, h2, h4⟩ := h
  exact ⟨p, c, h1, h2, h4.imp id fun ⟨b, off, hp, hs⟩ => ⟨b, off, hp, hs.ext he⟩⟩

/-- The cells of edges. -/
def edCells (l : List GR.Ed) : List Value := l.flatMap fun d => [.int .i64 d.1, .int .i64 d.2]
theorem edCells_length (l : List GR.Ed) : (edCells l).length = l.length * 2 := by
  induction l with
  | nil => rfl
  | cons d l ih => unfold edCells at *; rw [List.flatMap_cons, List.length_append, ih]; simp; omega
theorem edCells_app (l : List GR.Ed) (d : GR.Ed) : edCells (l ++ [d]) = edCells l ++ [.int .i64 d.1, .int .i64 d.2] := by unfold edCells; rw [List.flatMap_append]; simp
theorem edCells_at (l : List GR.Ed) (i : Nat) (h : i < l.length) : (edCells l)[i * 2]? = some (.int .i64 l[i].1) ∧ (edCells l)[i * 2 + 1]? = some (.int .i64 l[i].2) := by
  induction l generalizing i with
  | nil => simp at h
  | cons d l ih =>
    cases i with
    | zero => constructor <;> rfl
    | succ i =>
      have := ih i (by simpa using h)
      have e : edCells (d :: l) = [.int .i64 d.1, .int .i64 d.2] ++ edCells l := by unfold edCells; rw [List.flatMap_cons]
      rw [e, List.getElem?_append_right (by simp; omega), List.getElem?_append_right (by simp; omega)]
      simp only [List.length_cons, List.length_nil, List.getElem_cons_succ]
      rw [show (i + 1) * 2 - (0 + 1 + 1) = i * 2 from by omega, show (i + 1) * 2 + 1 - (0 + 1 + 1) = i * 2 + 1 from by omega]
      exact this
theorem row_eds {W : World} {base : Nat} {e : TypeId} {v : Value} {l : List GR.Ed} (h : W.ownsRow base e 2 v l.length (edCells l)) (hl : l.length ≤ 70368744177664) : EdsV W v l := by
  rcases h.2 with ⟨rfl, h0⟩ | ⟨g, cap, cur, rfl, hb, hg, hn, hc, hs, hx⟩
  · have : l = [] := List.length_eq_zero_iff.1 h0
    subst this
    exact ⟨none, 0, rfl, by simp, .inl rfl⟩
  · refine ⟨_, cap, rfl, hl, .inr ⟨g, 0, rfl, fun i hi => ?_⟩⟩
    have h1 := edCells_at l i hi
    rw [Nat.zero_add]
    have k1 := h.cellAt (i * 2) (by omega)
    have k2 := h.cellAt (i * 2 + 1) (by omega)
    rw [k1, k2]
    simpa using h1
theorem cell_two_new (w : World) (x y : Value) (t : TypeId) : ∀ j u, [x, y][j]? = some u → (w.alloc (.cells #[x, y] t)).cell? ((⟨w.heap.size, 0, none⟩ : Addr).add j) = some u := by
  intro j u hj
  match j, hj with
  | 0, hj =>
    simp at hj
    subst hj
    simp [Addr.add]
  | 1, hj =>
    simp at hj
    subst hj
    simp [Addr.add]
theorem info_edge : (Try.prog.info? 55).map (fun i => (i.zero, i.size, i.bytes)) = some (some (.agg #[.int .i64 0, .int .i64 0]), 2, 16) := by kernel_rfl
theorem info_ed : (Try.prog.info? 68).map (fun i => (i.zero, i.size, i.bytes)) = some (some (.agg #[.int .i64 0, .int .i64 0]), 2, 16) := by kernel_rfl

/-- What has come: a row of edges so far. -/
structure EdR (w W : World) (e : TypeId) (v : Value) (out : List GR.Ed) : Prop where
  row : W.ownsRow w.heap.size e 2 v out.length (edCells out)
  ext : Ext w W
theorem EdR.more {w W W' : World} {e : TypeId} {v : Value} {out : List GR.Ed} (h : EdR w W e v out) (he : Ext W W') : EdR w W' e v out := ⟨row_to h.row he, h.ext.trans he⟩

theorem badI_true {n : Int} {d : GR.Ed} (h : d.1 < 0 ∨ n ≤ d.1 ∨ d.2 < 0 ∨ n ≤ d.2 ∨ d.1 = d.2) : GR.badI n d = true := decide_eq_true h

/-- A row of numbers so far. -/
structure IntR (w W : World) (v : Value) (out : List Int) : Prop where
  row : W.ownsRow w.heap.size 3 1 v out.length (intCells out)
  ext : Ext w W
theorem IntR.more {w W W' : World} {v : Value} {out : List Int} (h : IntR w W v out) (he : Ext W W') : IntR w W' v out := ⟨row_to h.row he, h.ext.trans he⟩

set_option maxRecDepth 100000 in
set_option maxHeartbeats 2000000 in
theorem law_own_some (b off n c : Nat) (l : List GR.Ed) (w : World) (hn : l.length = n) (hm : n ≤ 1000) (hl : EdsAt w b off l) :
    Calls Try.prog 13 #[.slice (some ⟨b, off, none⟩) n c] w fun e w' => ∃ v, e = .returned v ∧ EdR w w' 55 v l := by
  obtain ⟨i0, hi, hz0, hz1, hz2⟩ := info_parts info_edge
  have Hi := Lib.hid hi
  have HL := Lib.hid hl
  have HN := Lib.hid hn
  clear hi hl hn
  go_enter Try.func13, Try.ntmps13
  go_wp2
  go_loopw [3, 4] (fun ov i wr => ∃ (k : Nat), k ≤ n ∧ i = .int .i64 k ∧ EdR w wr 55 ov (l.take k)) (fun _ i _ => n - (intOf i).toNat)
  case atStart => exact ⟨0, by omega, rfl, World.ownsRow_nil _ _ _ _, Ext.refl _⟩
  case round =>
    obtain ⟨k, hk, rfl, hI⟩ := hrel
    obtain ⟨p1, q1, rfl⟩ := row_slice hI.row
    by_cases hlt : k < n
    · have hkl : k < l.length := by rw [HN.out]; exact hlt
      have a1 := hI.ext.cell (HL.out k hkl).1
      have a2 := hI.ext.cell (HL.out k hkl).2
      have hnx := take_next l k hkl
      have hlen : (l.take k).length = k := by rw [List.length_take]; omega
      rw [hlen]
      have hrow := hI.row
      rw [hlen] at hrow
      have hE := hI.ext
      generalize l[k] = d at *
      generalize l.take k = out at *
      have HNX := Lib.hid hnx
      have HLEN := Lib.hid hlen
      have HROW := Lib.hid hrow
      clear hnx hlen hrow hI
      go_wp2
      have hal : Ext wr (wr.alloc (.cells #[.int .i64 d.1, .int .i64 d.2] 55)).drew := ((Ext.refl _).alloc _).drew
      have HR := Lib.hid (row_to HROW.out hal)
      have hnew : ∀ j u, [Value.int .i64 d.1, Value.int .i64 d.2][j]? = some u → (wr.alloc (.cells #[.int .i64 d.1, .int .i64 d.2] 55)).drew.cell? ((⟨wr.heap.size, 0, none⟩ : Addr).add j) = some u := cell_two_new wr _ _ _
      have HNEW := Lib.hid hnew
      have HES := hE.size
      have HS : (wr.alloc (.cells #[.int .i64 d.1, .int .i64 d.2] 55)).drew.heap.size = wr.heap.size + 1 := World.size_alloc _ _
      have HS2 := Lib.hid HS
      clear HS hnew
      refine wp_region_noPanic ?_
      go_region_law (refine step_append_lies _ rfl (.tmp 11) (.tmp 23) 39 rfl w.heap.size 55 i0 (.agg #[.int .i64 0, .int .i64 0]) 2 16 Try.underlying39 Hi.out hz0 hz1 hz2 rfl (by decide) (.slice p1 k q1) k (edCells out) (by simp [Act.eval, Act.put]) HR.out ⟨wr.heap.size, 0, none⟩ 1 1 [.int .i64 d.1, .int .i64 d.2] (by simp [Act.eval, Act.put]) rfl HNEW.out (by intro u hu; simp at hu; rcases hu with rfl | rfl <;> rfl) (by omega) (by unfold maxLen; omega) (by omega) (by rw [HS2.out]; omega) _ rfl ?_; intro g cap w6 hown' hgrow hat hgl)
      all_goals
        refine NoPanic.normal ?_
        go_wp2
        go_roundw
        case rel =>
          refine ⟨k + 1, by omega, by go_num, ⟨?_, ext_grownV (hE.trans hal) HR.out hgrow (Nat.le_refl _)⟩⟩
          rw [HNX.out, edCells_app, List.length_append, HLEN.out]
          exact hown'
        case measure => simp [intOf]; omega
    · obtain rfl : k = n := by omega
      rw [List.take_of_length_le (by rw [HN.out]; omega)] at hI ⊢
      have HI := Lib.hid hI
      clear hI
      go_wp2
      go_ret
      exact ⟨_, rfl, HI.out⟩

set_option maxRecDepth 100000 in
theorem law_own_nil (q : Option Addr) (c : Nat) (w : World) :
    Calls Try.prog 13 #[.slice q 0 c] w fun e w' => ∃ v, e = .returned v ∧ EdR w w' 55 v [] := by
  go_enter Try.func13, Try.ntmps13
  go_wp2
  refine wp_loop_rounds 1 ?_
  rw [rounds_succ]
  go_wp2
  go_ret
  exact ⟨_, rfl, World.ownsRow_nil _ _ _ _, Ext.refl _⟩

/-- The law's own copy of edges. -/
theorem law_own (v : Value) (l : List GR.Ed) (w : World) (h : EdsV w v l) (hm : l.length ≤ 1000) :
    Calls Try.prog 13 #[v] w fun e w' => ∃ v', e = .returned v' ∧ EdR w w' 55 v' l := by
  obtain ⟨p, c, rfl, _, h0 | ⟨b, o, rfl, hs⟩⟩ := h
  · obtain rfl := List.length_eq_zero_iff.1 h0
    exact law_own_nil p c w
  · exact law_own_some b o l.length c l w rfl hm hs
end Go.Proofs.Ytcnjklbmlplehaa
