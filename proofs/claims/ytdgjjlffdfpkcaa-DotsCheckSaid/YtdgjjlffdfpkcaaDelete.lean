/- slices.Delete of one dot, in a row of one's own. -/
import Derived.Test.YtdgjjlffdfpkcaaDotRows
namespace Go.Proofs.Ytdgjjlffdfpkcaa
open Go.RowKit Go.Shelf Go.Lib

theorem info_dot' : (Try.prog.info? 26).map (fun i => (i.zero, i.size, i.bytes)) = some (some (dotV (0, 0)), 2, 16) := by kernel_rfl

theorem dotCells_one (l : List Dot) : ∀ v ∈ dotCells l, v.oneCell' = true := by
  intro v hv
  unfold dotCells at hv
  obtain ⟨d, _, hd⟩ := List.mem_flatMap.1 hv
  simp at hd
  rcases hd with rfl | rfl <;> rfl

theorem dotCells_take (l : List Dot) (i : Nat) : (dotCells l).take (i * 2) = dotCells (l.take i) := by
  induction l generalizing i with
  | nil => simp [dotCells]
  | cons d l ih =>
    cases i with
    | zero => simp [dotCells]
    | succ i =>
      have e : dotCells (d :: l) = [.int .i64 d.1, .int .i64 d.2] ++ dotCells l := by unfold dotCells; rw [List.flatMap_cons]
      have e2 : dotCells (d :: l.take i) = [.int .i64 d.1, .int .i64 d.2] ++ dotCells (l.take i) := by unfold dotCells; rw [List.flatMap_cons]
      rw [e, List.take_succ_cons, e2, ← ih i, show (i + 1) * 2 = i * 2 + 1 + 1 by omega]
      rfl
theorem dotCells_drop (l : List Dot) (i : Nat) : (dotCells l).drop (i * 2) = dotCells (l.drop i) := by
  have h := List.take_append_drop (i * 2) (dotCells l)
  have h2 : dotCells l = dotCells (l.take i) ++ dotCells (l.drop i) := by
    conv => lhs; rw [← List.take_append_drop i l]
    unfold dotCells
    rw [List.flatMap_append]
  rw [dotCells_take] at h
  exact List.append_cancel_left (h.trans h2)
theorem dotCells_append (l m : List Dot) : dotCells (l ++ m) = dotCells l ++ dotCells m := by unfold dotCells; rw [List.flatMap_append]

theorem row_cells {w : World} {base g n cap : Nat} {e : TypeId} {xs : List Value} (h : w.ownsRow base e 2 (.slice (some ⟨g, 0, none⟩) n cap) n xs) :
    ∃ cur : Array Value, base ≤ g ∧ w.heap[g]? = some (.cells cur e (0, 0)) ∧ n ≤ cap ∧ cap ≤ maxLen ∧ cur.size = cap * 2 ∧ cur.toList.take (n * 2) = xs := by
  rcases h.2 with ⟨h0, _⟩ | ⟨g', cap', cur, hv, h1, h2, h3, h4, h5, h6⟩
  · cases h0
  · injection hv with e1 e2 e3
    injection e1 with e1
    injection e1 with e1
    subst e1 e3
    exact ⟨cur, h1, h2, h3, h4, h5, h6⟩

theorem cell_row {w : World} {g i : Nat} {e : TypeId} {cur : Array Value} (h : w.heap[g]? = some (.cells cur e (0, 0))) : w.cell? ⟨g, i, none⟩ = cur[i]? ∧ w.frozen? ⟨g, i, none⟩ = false := by
  unfold World.cell? World.frozen?
  simp [h]

set_option maxRecDepth 100000 in
set_option maxHeartbeats 2000000 in
theorem dots_delete (g i m cap base : Nat) (l : List Dot) (w : World) (hn : l.length = i + 1 + m) (hrow : w.ownsRow base 26 2 (.slice (some ⟨g, 0, none⟩) (i + 1 + m) cap) (i + 1 + m) (dotCells l)) :
    Calls Try.prog 57 #[.slice (some ⟨g, 0, none⟩) (i + 1 + m) cap, .int .i64 i, .int .i64 ((i : Int) + 1)] w fun e w' =>
      e = .returned (.slice (some ⟨g, 0, none⟩) (i + m) cap) ∧ w'.ownsRow base 26 2 (.slice (some ⟨g, 0, none⟩) (i + m) cap) (i + m) (dotCells (l.take i ++ l.drop (i + 1))) ∧ w.grownBy w' (some g) := by
  obtain ⟨cur, hb, hg, hnc, hcm, hcs, htk⟩ := row_cells hrow
  obtain ⟨i0, hi, hz0, hz1, hz2⟩ := info_parts info_dot'
  have hfacts : ∀ k, w.drew.cell? ⟨g, k, none⟩ = cur[k]? ∧ w.drew.frozen? ⟨g, k, none⟩ = false := fun k => cell_row hg
  obtain ⟨news, hnews⟩ : ∃ news, news = dotCells (l.drop (i + 1)) := ⟨_, rfl⟩
  have hlen : news.length = m * 2 := by rw [hnews, dotCells_length, List.length_drop]; omega
  have hcur : ∀ t, t < m * 2 → news[t]? = cur[(i + 1) * 2 + t]? := fun t ht => by
    rw [hnews, ← dotCells_drop, List.getElem?_drop, ← htk, List.getElem?_take, if_pos (by omega), Array.getElem?_toList]
  obtain ⟨A, hA, hsrc⟩ : ∃ A : Addr, (if cap = i + 1 then some (⟨g, 0, none⟩ : Addr) else some ⟨g, (i + 1) * 2, none⟩) = some A ∧ Hid (∀ t u, news[t]? = some u → w.drew.cell? (A.add t) = some u) := by
    by_cases h : cap = i + 1
    · refine ⟨⟨g, 0, none⟩, by simp [h], fun t u hu => ?_⟩
      have h0 : news.length = 0 := by rw [hlen]; omega
      rw [List.length_eq_zero_iff.1 h0] at hu
      simp at hu
    · refine ⟨⟨g, (i + 1) * 2, none⟩, by simp [h], fun t u hu => ?_⟩
      have ht : t < m * 2 := by
        have := (List.getElem?_eq_some_iff.1 hu).1
        rwa [hlen] at this
      rw [Addr.add_lit, (hfacts _).1, ← hcur t ht]
      exact hu
  have s1 : Hid (news.length = m * 2) := hlen
  have s2 : Hid (∀ u ∈ news, u.oneCell' = true) := by rw [hnews]; exact dotCells_one _
  have s3 : Hid (∀ t, t < news.length → (w.drew.cell? ⟨g, 0 + i * 2 + t, none⟩).isSome = true ∧ w.drew.frozen? ⟨g, 0 + i * 2 + t, none⟩ = false) := by
    intro t ht
    rw [hlen] at ht
    refine ⟨?_, (hfacts _).2⟩
    rw [(hfacts _).1, Array.getElem?_eq_getElem (by omega)]
    rfl
  obtain ⟨W1, hW1⟩ : ∃ W1, W1 = w.drew.setCells g (0 + i * 2) news := ⟨_, rfl⟩
  have hW : Hid (W1 = w.drew.setCells g (0 + i * 2) news) := hW1
  -- the row behind the append, and behind the clearing
  have hg1 : W1.heap[g]? = some (.cells (layc cur (0 + i * 2) news) 26 (0, 0)) := by rw [hW1]; exact heap_setCells w.drew g _ _ cur news hg (by omega) s2.out
  have hsz1 : (layc cur (0 + i * 2) news).size = cap * 2 := by rw [layc_size _ _ _ (by omega), hcs]
  have hcl : ∀ ty, (Builtin.clear_ #[22] ty #[.slice (some ⟨g, (i + m) * 2, none⟩) (i + 1 + m - (i + m)) (cap - (i + m))]).run Try.prog W1 = .ok (.tuple #[]) (W1.setCells g ((i + m) * 2) [.int .i64 0, .int .i64 0]) := fun ty => by
    have hst := run_storeCells_at Try.prog g ((i + m) * 2) 26 [.int .i64 0, .int .i64 0] 0 _ W1 hg1 (by rw [hsz1]; simp; omega) (by simp [Value.oneCell'])
    rw [setCells_row W1 g _ _ _ _ hg1 (by rw [hsz1]; simp; omega) (by simp [Value.oneCell'])]
    simp only [Nat.add_zero] at hst
    rw [show i + 1 + m - (i + m) = 0 + 1 by omega]
    have hz : Builtin.zeroCells (Value.agg #[.int .i64 0, .int .i64 0]).cells 1 = #[.int .i64 0, .int .i64 0] := by kernel_rfl
    have hv := Try.zeroValue26
    simp [Builtin.clear_, run_underlying Try.underlying22, hv, hz, hst, layc]
  have HEND : Hid (Ending.returned (.slice (some ⟨g, 0, none⟩) (i + m) cap) = Ending.returned (.slice (some ⟨g, 0, none⟩) (i + m) cap) ∧ (W1.setCells g ((i + m) * 2) [.int .i64 0, .int .i64 0]).ownsRow base 26 2 (.slice (some ⟨g, 0, none⟩) (i + m) cap) (i + m) (dotCells (l.take i ++ l.drop (i + 1))) ∧ w.grownBy (W1.setCells g ((i + m) * 2) [.int .i64 0, .int .i64 0]) (some g)) := by
    refine ⟨rfl, ⟨by rw [dotCells_length]; simp; omega, .inr ⟨g, cap, _, rfl, hb, heap_setCells W1 g _ _ _ _ hg1 (by rw [hsz1]; simp; omega) (by simp [Value.oneCell']), by omega, hcm, by rw [layc_size _ _ _ (by rw [hsz1]; simp; omega)]; exact hsz1, ?_⟩⟩, ?_⟩
    · rw [layc_to _ _ _ (by rw [hsz1]; simp; omega), dotCells_append, ← dotCells_take, ← hnews, ← htk, List.take_take, Nat.zero_add]
      have := layc_past cur (i * 2) news (by omega)
      rw [hlen] at this
      rw [Nat.add_mul, this, Nat.min_eq_left (by omega)]
    · rw [hW1]
      exact (⟨rfl, rfl, rfl, Nat.le_refl _, fun _ _ _ => rfl⟩ : w.grownBy w.drew (some g)).trans ((grown_setCells w.drew g _ _).trans (grown_setCells _ g _ _))
  have hic : i ≤ cap := by omega
  have hjc : i + 1 ≤ cap := by omega
  have Hi := Lib.hid hi
  have mixed : Try.prog.follows .mixedOrders = true := by kernel_rfl
  have hbd1 : (0 : Int) ≤ (i : Int) + 1 := by omega
  have hbd2 : (i : Int) + 1 ≤ (i : Int) + 1 + (m : Int) := by omega
  clear hW1 hnews hlen hcur hfacts hrow hi hg1 hsz1
  go_enter Try.func57, Try.ntmps57
  go_wp2_with fail
  go_region_law_o (refine step_append_room rfl (.tmp 22) (.tmp 25) 22 rfl 26 i0 2 Try.underlying22 Hi.out hz1 g 0 i cap (by simp [Act.eval, Act.put]) A m (cap - (i + 1)) news (by simp [Act.eval, Act.put]) s1.out hsrc.out s2.out (by omega) s3.out ?_; rw [← hW.out])
  go_wp2
  go_ret
  exact ⟨rfl, HEND.out.2⟩

end Go.Proofs.Ytdgjjlffdfpkcaa
