/- slices.Delete of one dot, in a row of one's own. slices.Insert of one dot, into a row of one's own. -/
import Derived.Test.YtdgjjlffdfpkcaaDotRows

namespace Go.Proofs.Ytdgjjlffdfpkcaa
open Go.RowKit Go.Shelf Go.Lib

theorem info_dot' : (Try.prog.info? 26).map (fun i => (i.zero, i.size, i.bytes)) = some (some (dotV (0, 0)), 2, 16) := by kernel_rfl

theorem dotCells_one (l : List Dot) : ∀ v ∈ dotCells l, v.oneCell' = true := by
  intro v hv
  unfold dotCells at hv
  obtain ⟨d, _, hd⟩ := List.mem_flatMap.1 hv
  simp at hd
  rcases hd with rfl | rfl <;> rfl

theorem dotCells_take (l : List Dot) (i : Nat) : (dotCells l).take (i * 2) = dotCells (l.take i) := by
  induction l generalizing i with
  | nil => simp [dotCells]
  | cons d l ih =>
    cases i with
    | zero => simp [dotCells]
    | succ i =>
      have e : dotCells (d :: l) = [.int .i64 d.1, .int .i64 d.2] ++ dotCells l := by unfold dotCells; rw [List.flatMap_cons]
      have e2 : dotCells (d :: l.take i) = [.int .i64 d.1, .int .i64 d.2] ++ dotCells (l.take i) := by unfold dotCells; rw [List.flatMap_cons]
      rw [e, List.take_succ_cons, e2, ← ih i, show (i + 1) * 2 = i * 2 + 1 + 1 by omega]
      rfl
theorem dotCells_drop (l : List Dot) (i : Nat) : (dotCells l).drop (i * 2) = dotCells (l.drop i) := by
  have h := List.take_append_drop (i * 2) (dotCells l)
  have h2 : dotCells l = dotCells (l.take i) ++ dotCells (l.drop i) := by
    conv => lhs; rw [← List.take_append_drop i l]
    unfold dotCells
    rw [List.flatMap_append]
  rw [dotCells_take] at h
  exact List.append_cancel_left (h.trans h2)
theorem dotCells_append (l m : List Dot) : dotCells (l ++ m) = dotCells l ++ dotCells m := by unfold dotCells; rw [List.flatMap_append]

theorem row_cells {w : World} {base g n cap : Nat} {e : TypeId} {xs : List Value} (h : w.ownsRow base e 2 (.slice (some ⟨g, 0, none⟩) n cap) n xs) :
    ∃ cur : Array Value, base ≤ g ∧ w.heap[g]? = some (.cells cur e (0, 0)) ∧ n ≤ cap ∧ cap ≤ maxLen ∧ cur.size = cap * 2 ∧ cur.toList.take (n * 2) = xs := by
  rcases h.2 with ⟨h0, _⟩ | ⟨g', cap', cur, hv, h1, h2, h3, h4, h5, h6⟩
  · cases h0
  · injection hv with e1 e2 e3
    injection e1 with e1
    injection e1 with e1
    subst e1 e3
    exact ⟨cur, h1, h2, h3, h4, h5, h6⟩

theorem cell_row {w : World} {g i : Nat} {e : TypeId} {cur : Array Value} (h : w.heap[g]? = some (.cells cur e (0, 0))) : w.cell? ⟨g, i, none⟩ = cur[i]? ∧ w.frozen? ⟨g, i, none⟩ = false := by
  unfold World.cell? World.frozen?
  simp [h]

set_option maxRecDepth 100000 in
set_option maxHeartbeats 2000000 in
theorem dots_delete (g i m cap base : Nat) (l : List Dot) (w : World) (hn : l.length = i + 1 + m) (hrow : w.ownsRow base 26 2 (.slice (some ⟨g, 0, none⟩) (i + 1 + m) cap) (i + 1 + m) (dotCells l)) :
    Calls Try.prog 57 #[.slice (some ⟨g, 0, none⟩) (i + 1 + m) cap, .int .i64 i, .int .i64 ((i : Int) + 1)] w fun e w' =>
      e = .returned (.slice (some ⟨g, 0, none⟩) (i + m) cap) ∧ w'.ownsRow base 26 2 (.slice (some ⟨g, 0, none⟩) (i + m) cap) (i + m) (dotCells (l.take i ++ l.drop (i + 1))) ∧ w.grownBy w' (some g) := by
  obtain ⟨cur, hb, hg, hnc, hcm, hcs, htk⟩ := row_cells hrow
  obtain ⟨i0, hi, hz0, hz1, hz2⟩ := info_parts info_dot'
  have hfacts : ∀ k, w.drew.cell? ⟨g, k, none⟩ = cur[k]? ∧ w.drew.frozen? ⟨g, k, none⟩ = false := fun k => cell_row hg
  obtain ⟨news, hnews⟩ : ∃ news, news = dotCells (l.drop (i + 1)) := ⟨_, rfl⟩
  have hlen : news.length = m * 2 := by rw [hnews, dotCells_length, List.length_drop]; omega
  have hcur : ∀ t, t < m * 2 → news[t]? = cur[(i + 1) * 2 + t]? := fun t ht => by
    rw [hnews, ← dotCells_drop, List.getElem?_drop, ← htk, List.getElem?_take, if_pos (by omega), Array.getElem?_toList]
  obtain ⟨A, hA, hsrc⟩ : ∃ A : Addr, (if cap = i + 1 then some (⟨g, 0, none⟩ : Addr) else some ⟨g, (i + 1) * 2, none⟩) = some A ∧ Hid (∀ t u, news[t]? = some u → w.drew.cell? (A.add t) = some u) := by
    by_cases h : cap = i + 1
    · refine ⟨⟨g, 0, none⟩, by simp [h], fun t u hu => ?_⟩
      have h0 : news.length = 0 := by rw [hlen]; omega
      rw [List.length_eq_zero_iff.1 h0] at hu
      simp at hu
    · refine ⟨⟨g, (i + 1) * 2, none⟩, by simp [h], fun t u hu => ?_⟩
      have ht : t < m * 2 := by
        have := (List.getElem?_eq_some_iff.1 hu).1
        rwa [hlen] at this
      rw [Addr.add_lit, (hfacts _).1, ← hcur t ht]
      exact hu
  have s1 : Hid (news.length = m * 2) := hlen
  have s2 : Hid (∀ u ∈ news, u.oneCell' = true) := by rw [hnews]; exact dotCells_one _
  have s3 : Hid (∀ t, t < news.length → (w.drew.cell? ⟨g, 0 + i * 2 + t, none⟩).isSome = true ∧ w.drew.frozen? ⟨g, 0 + i * 2 + t, none⟩ = false) := by
    intro t ht
    rw [hlen] at ht
    refine ⟨?_, (hfacts _).2⟩
    rw [(hfacts _).1, Array.getElem?_eq_getElem (by omega)]
    rfl
  obtain ⟨W1, hW1⟩ : ∃ W1, W1 = w.drew.setCells g (0 + i * 2) news := ⟨_, rfl⟩
  have hW : Hid (W1 = w.drew.setCells g (0 + i * 2) news) := hW1
  -- the row behind the append, and behind the clearing
  have hg1 : W1.heap[g]? = some (.cells (layc cur (0 + i * 2) news) 26 (0, 0)) := by rw [hW1]; exact heap_setCells w.drew g _ _ cur news hg (by omega) s2.out
  have hsz1 : (layc cur (0 + i * 2) news).size = cap * 2 := by rw [layc_size _ _ _ (by omega), hcs]
  have hcl : ∀ ty, (Builtin.clear_ #[22] ty #[.slice (some ⟨g, (i + m) * 2, none⟩) (i + 1 + m - (i + m)) (cap - (i + m))]).run Try.prog W1 = .ok (.tuple #[]) (W1.setCells g ((i + m) * 2) [.int .i64 0, .int .i64 0]) := fun ty => by
    have hst := run_storeCells_at Try.prog g ((i + m) * 2) 26 [.int .i64 0, .int .i64 0] 0 _ W1 hg1 (by rw [hsz1]; simp; omega) (by simp [Value.oneCell'])
    rw [setCells_row W1 g _ _ _ _ hg1 (by rw [hsz1]; simp; omega) (by simp [Value.oneCell'])]
    simp only [Nat.add_zero] at hst
    rw [show i + 1 + m - (i + m) = 0 + 1 by omega]
    have hz : Builtin.zeroCells (Value.agg #[.int .i64 0, .int .i64 0]).cells 1 = #[.int .i64 0, .int .i64 0] := by kernel_rfl
    have hv := Try.zeroValue26
    simp [Builtin.clear_, run_underlying Try.underlying22, hv, hz, hst, layc]
  have HEND : Hid (Ending.returned (.slice (some ⟨g, 0, none⟩) (i + m) cap) = Ending.returned (.slice (some ⟨g, 0, none⟩) (i + m) cap) ∧ (W1.setCells g ((i + m) * 2) [.int .i64 0, .int .i64 0]).ownsRow base 26 2 (.slice (some ⟨g, 0, none⟩) (i + m) cap) (i + m) (dotCells (l.take i ++ l.drop (i + 1))) ∧ w.grownBy (W1.setCells g ((i + m) * 2) [.int .i64 0, .int .i64 0]) (some g)) := by
    refine ⟨rfl, ⟨by rw [dotCells_length]; simp; omega, .inr ⟨g, cap, _, rfl, hb, heap_setCells W1 g _ _ _ _ hg1 (by rw [hsz1]; simp; omega) (by simp [Value.oneCell']), by omega, hcm, by rw [layc_size _ _ _ (by rw [hsz1]; simp; omega)]; exact hsz1, ?_⟩⟩, ?_⟩
    · rw [layc_to _ _ _ (by rw [hsz1]; simp; omega), dotCells_append, ← dotCells_take, ← hnews, ← htk, List.take_take, Nat.zero_add]
      have := layc_past cur (i * 2) news (by omega)
      rw [hlen] at this
      rw [Nat.add_mul, this, Nat.min_eq_left (by omega)]
    · rw [hW1]
      exact (⟨rfl, rfl, rfl, Nat.le_refl _, fun _ _ _ => rfl⟩ : w.grownBy w.drew (some g)).trans ((grown_setCells w.drew g _ _).trans (grown_setCells _ g _ _))
  have hic : i ≤ cap := by omega
  have hjc : i + 1 ≤ cap := by omega
  have Hi := Lib.hid hi
  have mixed : Try.prog.follows .mixedOrders = true := by kernel_rfl
  have hbd1 : (0 : Int) ≤ (i : Int) + 1 := by omega
  have hbd2 : (i : Int) + 1 ≤ (i : Int) + 1 + (m : Int) := by omega
  clear hW1 hnews hlen hcur hfacts hrow hi hg1 hsz1
  go_enter Try.func57, Try.ntmps57
  go_wp2_with fail
  go_region_law_o (refine step_append_room rfl (.tmp 22) (.tmp 25) 22 rfl 26 i0 2 Try.underlying22 Hi.out hz1 g 0 i cap (by simp [Act.eval, Act.put]) A m (cap - (i + 1)) news (by simp [Act.eval, Act.put]) s1.out hsrc.out s2.out (by omega) s3.out ?_; rw [← hW.out])
  go_wp2
  go_ret
  exact ⟨rfl, HEND.out.2⟩

end Go.Proofs.Ytdgjjlffdfpkcaa

namespace Go.Proofs.Ytdgjjlffdfpkcaa
open Go.RowKit Go.Shelf Go.Lib

theorem cells_two {w : World} {b : Nat} {t : TypeId} {x y : Value} (h : w.heap[b]? = some (.cells #[x, y] t (0, 0))) : ∀ j u, [x, y][j]? = some u → w.cell? ((⟨b, 0, none⟩ : Addr).add j) = some u := by
  intro j u hj
  rw [Addr.add_lit, (cell_row h).1]
  simpa using hj

set_option maxRecDepth 100000 in
theorem dots_insert_end (p : Option Addr) (n cap vb base : Nat) (l : List Dot) (d : Dot) (w : World) (hn : l.length = n) (hm : n ≤ 1000000) (hrow : w.ownsRow base 26 2 (.slice p n cap) n (dotCells l)) (hbase : base ≤ w.heap.size)
    (hv : w.heap[vb]? = some (.cells #[.int .i64 d.1, .int .i64 d.2] 26 (0, 0))) :
    Calls Try.prog 54 #[.slice p n cap, .int .i64 n, .slice (some ⟨vb, 0, none⟩) 1 1] w fun e w' =>
      ∃ v', e = .returned v' ∧ w'.ownsRow base 26 2 v' (n + 1) (dotCells (l ++ [d])) ∧ w.grownBy w' (Value.ownBlock (.slice p n cap)) := by
  obtain ⟨i0, hi, hz0, hz1, hz2⟩ := info_parts info_dot'
  have Hi := Lib.hid hi
  have hsrc := cells_two hv
  have hnc : n ≤ cap := by
    rcases hrow.2 with ⟨h0, h1⟩ | ⟨_, _, _, h0, _, _, h3, _⟩
    · omega
    · injection h0 with _ _ h0; omega
  have b1 : n + 1 ≤ maxLen := by unfold maxLen; omega
  have b2 : (n + 1) * 16 ≤ 140737488355328 := by omega
  have hda := dotCells_app l d
  rw [hda]
  have HROW := Lib.hid hrow
  generalize dotCells l = D at *
  clear hi hv hda hrow
  obtain rfl | ⟨⟨g, o, sp⟩, rfl⟩ : p = none ∨ ∃ a, p = some a := by cases p <;> simp
  · go_enter Try.func54, Try.ntmps54
    go_wp2_with (at_builtin; refine wpList_append_own _ rfl _ _ 22 rfl base 26 i0 (dotV (0, 0)) 2 16 Try.underlying22 Hi.out hz0 hz1 hz2 rfl (by decide) _ _ _ rfl HROW.out ⟨vb, 0, none⟩ 1 1 [.int .i64 d.1, .int .i64 d.2] rfl rfl hsrc (by simp [Value.oneCell']) b1 b2 hbase ?_; intro v' w1 hown' hgrow _)
    all_goals
      go_ret
      exact ⟨_, rfl, hown', hgrow⟩
  · go_enter Try.func54, Try.ntmps54
    go_wp2_with (at_builtin; refine wpList_append_own _ rfl _ _ 22 rfl base 26 i0 (dotV (0, 0)) 2 16 Try.underlying22 Hi.out hz0 hz1 hz2 rfl (by decide) _ _ _ rfl HROW.out ⟨vb, 0, none⟩ 1 1 [.int .i64 d.1, .int .i64 d.2] rfl rfl hsrc (by simp [Value.oneCell']) b1 b2 hbase ?_; intro v' w1 hown' hgrow _)
    all_goals
      go_ret
      exact ⟨_, rfl, hown', hgrow⟩

set_option maxRecDepth 100000 in
set_option maxHeartbeats 2000000 in
theorem dots_insert_shift (g i m cap vb base : Nat) (l : List Dot) (d : Dot) (w : World) (hn : l.length = i + 1 + m) (hrow : w.ownsRow base 26 2 (.slice (some ⟨g, 0, none⟩) (i + 1 + m) cap) (i + 1 + m) (dotCells l))
    (hv : w.heap[vb]? = some (.cells #[.int .i64 d.1, .int .i64 d.2] 26 (0, 0))) (hne : vb ≠ g) (hroom : i + 1 + m + 1 ≤ cap) :
    Calls Try.prog 54 #[.slice (some ⟨g, 0, none⟩) (i + 1 + m) cap, .int .i64 i, .slice (some ⟨vb, 0, none⟩) 1 1] w fun e w' =>
      ∃ v', e = .returned v' ∧ w'.ownsRow base 26 2 v' (i + 1 + m + 1) (dotCells (l.take i ++ d :: l.drop i)) ∧ w.grownBy w' (some g) := by
  obtain ⟨cur, hb, hg, hnc, hcm, hcs, htk⟩ := row_cells hrow
  have mixed : Try.prog.follows .mixedOrders = true := by kernel_rfl
  have hcm2 : cap ≤ 9223372036854775807 := by unfold maxLen at hcm; omega
  have hov : ∀ lb cb, (callFunc 69 #[.slice (some ⟨vb, 0, none⟩) 1 1, .slice (some ⟨g, (i + 1) * 2, none⟩) lb cb]).run Try.prog w = .ok (.value (.bool false)) w := fun lb cb => by
    rw [run_callFunc_extern Try.func69 (by kernel_rfl) (by kernel_rfl) (by kernel_rfl) (e := Extern.SlicesOverlaps.overlaps #[22, 22] #[4]) (by kernel_rfl),
      Lib.run_overlaps_apart w 22 4 26 Try.underlying22 2 Try.sizeOf26 ⟨vb, 0, none⟩ ⟨g, (i + 1) * 2, none⟩ 1 1 lb cb hne 26 26 2 (cap * 2) (by simp [World.shape?, hv]) (by simp [World.shape?, hg, hcs]) (by omega) (cell_row hv).2 (cell_row hv).2]
    rfl
  obtain ⟨tl, htl⟩ : ∃ tl, tl = dotCells (l.drop i) := ⟨_, rfl⟩
  have htll : tl.length = (m + 1) * 2 := by rw [htl, dotCells_length, List.length_drop]; omega
  have htl1 : ∀ v ∈ tl, v.oneCell' = true := by rw [htl]; exact dotCells_one _
  have htlc : ∀ j v, tl[j]? = some v → w.drew.cell? ((⟨g, i * 2, none⟩ : Addr).add j) = some v := fun j v hj => by
    have hjl : j < (m + 1) * 2 := by rw [← htll]; exact (List.getElem?_eq_some_iff.1 hj).1
    rw [htl, ← dotCells_drop, List.getElem?_drop, ← htk, List.getElem?_take, if_pos (by omega), Array.getElem?_toList] at hj
    have := (cell_row (i := i * 2 + j) hg).1
    rw [Addr.add_lit]
    show w.cell? _ = _
    rw [this]
    exact hj
  have hsz : (Try.prog.info? 26).map (·.size) = some 2 := by kernel_rfl
  obtain ⟨W1, hW1⟩ : ∃ W1, W1 = w.drew.setCells g ((i + 1) * 2) tl := ⟨_, rfl⟩
  have hg1 : W1.heap[g]? = some (.cells (layc cur ((i + 1) * 2) tl) 26 (0, 0)) := by rw [hW1]; exact heap_setCells w.drew g _ _ cur tl hg (by omega) htl1
  have hs1 : (layc cur ((i + 1) * 2) tl).size = cap * 2 := by rw [layc_size _ _ _ (by omega), hcs]
  have hv1 : W1.heap[vb]? = some (.cells #[.int .i64 d.1, .int .i64 d.2] 26 (0, 0)) := by
    have hgr := grown_setCells w.drew g ((i + 1) * 2) tl
    rw [← hW1] at hgr
    rw [hgr.block vb (Array.getElem?_eq_some_iff.1 hv).1 (by intro e; injection e with e; exact hne e)]
    exact hv
  have hcp1 : ∀ ty dc sc, (Builtin.copy_ #[22, 22] ty #[.slice (some ⟨g, (i + 1) * 2, none⟩) (i + 1 + m - i) dc, .slice (some ⟨g, i * 2, none⟩) (i + 1 + m + 1 - i) sc]).run Try.prog w.drew = .ok (goInt (Nat.min (i + 1 + m + 1 - i) (i + 1 + m - i))) W1 := fun ty dc sc => by
    rw [hW1]
    exact run_copy_many w.drew _ _ ty 26 2 g ((i + 1) * 2) _ dc ⟨g, i * 2, none⟩ _ sc cur 26 tl Try.underlying22 hsz hg (by rw [htll, show Nat.min (i + 1 + m + 1 - i) (i + 1 + m - i) = m + 1 by simp only [Nat.min_def]; split <;> omega]) htlc (by omega) htl1
  have hcp2 : ∀ ty dc, (Builtin.copy_ #[22, 22] ty #[.slice (some ⟨g, i * 2, none⟩) (i + 1 + m + 1 - i) dc, .slice (some ⟨vb, 0, none⟩) 1 1]).run Try.prog W1 = .ok (goInt (Nat.min 1 (i + 1 + m + 1 - i))) (W1.setCells g (i * 2) [.int .i64 d.1, .int .i64 d.2]) := fun ty dc =>
    run_copy_many W1 _ _ ty 26 2 g (i * 2) _ dc ⟨vb, 0, none⟩ 1 1 _ 26 [.int .i64 d.1, .int .i64 d.2] Try.underlying22 hsz hg1 (by rw [show Nat.min 1 (i + 1 + m + 1 - i) = 1 by simp only [Nat.min_def]; split <;> omega]; rfl) (cells_two hv1) (by rw [hs1]; simp; omega) (by simp [Value.oneCell'])
  have HEND : Hid ((W1.setCells g (i * 2) [.int .i64 d.1, .int .i64 d.2]).ownsRow base 26 2 (.slice (some ⟨g, 0, none⟩) (i + 1 + m + 1) cap) (i + 1 + m + 1) (dotCells (l.take i ++ d :: l.drop i)) ∧ w.grownBy (W1.setCells g (i * 2) [.int .i64 d.1, .int .i64 d.2]) (some g)) := by
    refine ⟨⟨by rw [dotCells_length]; simp; omega, .inr ⟨g, cap, _, rfl, hb, heap_setCells W1 g _ _ _ _ hg1 (by rw [hs1]; simp; omega) (by simp [Value.oneCell']), hroom, hcm, by rw [layc_size _ _ _ (by rw [hs1]; simp; omega)]; exact hs1, ?_⟩⟩, ?_⟩
    · have hc : dotCells (l.take i ++ d :: l.drop i) = cur.toList.take (i * 2) ++ ([.int .i64 d.1, .int .i64 d.2] ++ tl) := by
        rw [dotCells_append, ← dotCells_take, ← htk, List.take_take, Nat.min_eq_left (by omega), htl]
        congr 1
      rw [hc]
      have := layc_shift cur (i * 2) [.int .i64 d.1, .int .i64 d.2] tl (by rw [htll]; simp; omega)
      rw [htll] at this
      simp only [List.length_cons, List.length_nil] at this
      rw [show (i + 1) * 2 = i * 2 + (0 + 1 + 1) by omega, show (i + 1 + m + 1) * 2 = i * 2 + (0 + 1 + 1) + (m + 1) * 2 by omega]
      exact this
    · rw [hW1]
      exact (⟨rfl, rfl, rfl, Nat.le_refl _, fun _ _ _ => rfl⟩ : w.grownBy w.drew (some g)).trans ((grown_setCells w.drew g _ _).trans (grown_setCells _ g _ _))
  have hw1 : IntKind.i64.wrap ((i : Int) + 1) = (i : Int) + 1 := by rw [IntKind.wrap_i64]; omega
  have htn : ((i : Int) + 1).toNat = i + 1 := by omega
  have hbd : (i : Int) + 1 ≤ (i : Int) + 1 + (m : Int) + 1 := by omega
  have hbd2 : (0 : Int) ≤ (i : Int) + 1 := by omega
  have hbd3 : (i : Int) ≤ (i : Int) + 1 + (m : Int) + 1 := by omega
  have hbd4 : ¬ (cap = i + 1) := by omega
  have hbd5 : ¬ (cap = i) := by omega
  clear hW1 hg1 hs1 hv1 htl htll htl1 htlc hg hcs htk hv hrow
  go_enter Try.func54, Try.ntmps54
  go_wp2_with (simp only [hov])
  go_region_law_o (refine step_copy_runI rfl _ _ 22 22 rfl _ _ (by simp [Act.eval, Act.put]) (by simp [Act.eval, Act.put]) (hcp1 _ _ _) ?_)
  go_wp2_with (at_builtin; refine wpList_copy_runI _ rfl _ _ 22 22 rfl _ _ rfl rfl (hcp2 _ _) ?_)
  go_ret
  exact ⟨_, rfl, HEND.out⟩

set_option maxRecDepth 100000 in
set_option maxHeartbeats 2000000 in
theorem dots_insert_grow (g i m cap vb base : Nat) (l : List Dot) (d : Dot) (w : World) (hn : l.length = i + 1 + m) (hbig : i + 1 + m ≤ 1000000) (hrow : w.ownsRow base 26 2 (.slice (some ⟨g, 0, none⟩) (i + 1 + m) cap) (i + 1 + m) (dotCells l)) (hbase : base ≤ w.heap.size)
    (hv : w.heap[vb]? = some (.cells #[.int .i64 d.1, .int .i64 d.2] 26 (0, 0))) (hroom : cap < i + 1 + m + 1) :
    Calls Try.prog 54 #[.slice (some ⟨g, 0, none⟩) (i + 1 + m) cap, .int .i64 i, .slice (some ⟨vb, 0, none⟩) 1 1] w fun e w' =>
      ∃ v', e = .returned v' ∧ w'.ownsRow base 26 2 v' (i + 1 + m + 1) (dotCells (l.take i ++ d :: l.drop i)) ∧ w.grownBy w' (some g) := by
  obtain ⟨cur, hb, hg, hnc, hcm, hcs, htk⟩ := row_cells hrow
  obtain ⟨i0, hi, hz0, hz1, hz2⟩ := info_parts info_dot'
  have mixed : Try.prog.follows .mixedOrders = true := by kernel_rfl
  obtain rfl : cap = i + 1 + m := by omega
  have hlt : g < w.heap.size := (Array.getElem?_eq_some_iff.1 hg).1
  have hvt : vb < w.heap.size := (Array.getElem?_eq_some_iff.1 hv).1
  obtain ⟨hd, hhd⟩ : ∃ hd, hd = dotCells (l.take i) := ⟨_, rfl⟩
  obtain ⟨tl, htl⟩ : ∃ tl, tl = dotCells (l.drop i) := ⟨_, rfl⟩
  have hhdl : hd.length = i * 2 := by rw [hhd, dotCells_length, List.length_take]; omega
  have htll : tl.length = (m + 1) * 2 := by rw [htl, dotCells_length, List.length_drop]; omega
  have htl1 : ∀ v ∈ tl, v.oneCell' = true := by rw [htl]; exact dotCells_one _
  have hold : (Builtin.firstCells i0.size i (.slice (some ⟨g, 0, none⟩) i (i + 1 + m))).run Try.prog w.drew = .ok hd.toArray w.drew := by
    rw [hz1]
    refine run_firstCells_some w.drew 2 i ⟨g, 0, none⟩ i _ hd hhdl fun j v hj => ?_
    have hjl : j < i * 2 := by rw [← hhdl]; exact (List.getElem?_eq_some_iff.1 hj).1
    rw [hhd, ← dotCells_take, ← htk, List.take_take, List.getElem?_take, if_pos (by omega), Array.getElem?_toList] at hj
    rw [Addr.add_lit]
    show w.cell? _ = _
    rw [(cell_row hg).1, Nat.zero_add]
    exact hj
  obtain ⟨G, hG⟩ : ∃ G, G = grownCap w (i + (m + 2)) (i + 1 + m) 26 := ⟨_, rfl⟩
  obtain ⟨ROW, hROW⟩ : ∃ ROW : Array Value, ROW = hd.toArray ++ Builtin.zeroCells (dotV (0, 0)).cells (m + 2) ++ Builtin.zeroCells (dotV (0, 0)).cells (G - (i + (m + 2))) := ⟨_, rfl⟩
  obtain ⟨W0, hW0⟩ : ∃ W0, W0 = w.drew.alloc (.cells ROW 26) := ⟨_, rfl⟩
  have hrz : ∀ ty, (Builtin.append_ #[22, 3] ty #[.slice (some ⟨g, 0, none⟩) i (i + 1 + m), .int .i64 ((i : Int) + 1 + (m : Int) + 1 - (i : Int))]).run Try.prog w = .ok (.slice (some ⟨w.heap.size, 0, none⟩) (i + (m + 2)) G) W0 := fun ty => by
    have h := Lib.run_append_grow_zeros w 22 3 ty 26 i0 (dotV (0, 0)) .i64 .i64 Try.underlying22 Try.underlying3 hi hz0 (some ⟨g, 0, none⟩) i (i + 1 + m) hd hold (m + 2) (by omega) (by omega) (by omega) (by omega) (by rw [hz2]; omega) (by rw [hz2]; exact growslice_fits (by omega) (by omega))
    rw [← hG, ← hROW, ← hW0] at h
    rw [show ((i : Int) + 1 + (m : Int) + 1 - (i : Int)) = ((m + 2 : Nat) : Int) by omega]
    exact h
  have hGe : i + (m + 2) ≤ G := by rw [hG]; exact grownCap_ge w _ _ _
  have hGm : G ≤ maxLen := by rw [hG]; exact grownCap_le_maxLen w _ _ _ (by unfold maxLen; omega)
  have hG63 : G ≤ 9223372036854775807 := by unfold maxLen at hGm; omega
  have hzc : (dotV (0, 0)).cells.size = 2 := by rfl
  have hRs : ROW.size = G * 2 := by
    rw [hROW]
    simp only [Array.size_append, size_zeroCells, hzc, List.size_toArray, hhdl]
    omega
  have hRt : ROW.toList.take (i * 2) = hd := by
    rw [hROW]
    simp only [Array.toList_append, List.append_assoc]
    rw [List.take_append_of_le_length (by rw [hhdl]; exact Nat.le_refl _), List.take_of_length_le (by rw [hhdl]; exact Nat.le_refl _)]
  have hg0 : W0.heap[w.heap.size]? = some (.cells ROW 26 (0, 0)) := by rw [hW0]; exact heap_alloc_new w.drew _
  have hold0 : ∀ k, k < w.heap.size → W0.heap[k]? = w.heap[k]? := fun k hk => by rw [hW0]; exact heap_alloc_old w.drew _ hk
  have hsz : (Try.prog.info? 26).map (·.size) = some 2 := by kernel_rfl
  -- v is laid over the new row
  obtain ⟨W1, hW1⟩ : ∃ W1, W1 = W0.setCells w.heap.size (i * 2) [.int .i64 d.1, .int .i64 d.2] := ⟨_, rfl⟩
  have hg1 : W1.heap[w.heap.size]? = some (.cells (layc ROW (i * 2) [.int .i64 d.1, .int .i64 d.2]) 26 (0, 0)) := by rw [hW1]; exact heap_setCells W0 _ _ _ ROW _ hg0 (by rw [hRs]; simp; omega) (by simp [Value.oneCell'])
  have hs1 : (layc ROW (i * 2) [.int .i64 d.1, .int .i64 d.2]).size = G * 2 := by rw [layc_size _ _ _ (by rw [hRs]; simp; omega), hRs]
  have hgr1 : W0.grownBy W1 (some w.heap.size) := by rw [hW1]; exact grown_setCells _ _ _ _
  have hW0s : W0.heap.size = w.heap.size + 1 := by rw [hW0]; exact World.size_alloc _ _
  have hold1 : W1.heap[g]? = w.heap[g]? := by
    rw [hgr1.block g (by omega) (by intro e; injection e; omega), hold0 g hlt]
  have hcp1 : ∀ ty dc, (Builtin.copy_ #[22, 22] ty #[.slice (some ⟨w.heap.size, i * 2, none⟩) (m + 2) dc, .slice (some ⟨vb, 0, none⟩) 1 1]).run Try.prog W0 = .ok (goInt (Nat.min 1 (m + 2))) W1 := fun ty dc => by
    rw [hW1]
    exact run_copy_many W0 _ _ ty 26 2 w.heap.size (i * 2) _ dc ⟨vb, 0, none⟩ 1 1 _ 26 [.int .i64 d.1, .int .i64 d.2] Try.underlying22 hsz hg0 (by rw [show Nat.min 1 (m + 2) = 1 by simp only [Nat.min_def]; split <;> omega]; rfl) (cells_two ((hold0 vb hvt).trans hv)) (by rw [hRs]; simp; omega) (by simp [Value.oneCell'])
  obtain ⟨W2, hW2⟩ : ∃ W2, W2 = W1.drew.setCells w.heap.size ((i + 1) * 2) tl := ⟨_, rfl⟩
  have hcp2 : ∀ ty dc sc, (Builtin.copy_ #[22, 22] ty #[.slice (some ⟨w.heap.size, (i + 1) * 2, none⟩) (i + (m + 2) - (i + 1)) dc, .slice (some ⟨g, i * 2, none⟩) (i + 1 + m - i) sc]).run Try.prog W1.drew = .ok (goInt (Nat.min (i + 1 + m - i) (i + (m + 2) - (i + 1)))) W2 := fun ty dc sc => by
    rw [hW2]
    refine run_copy_many W1.drew _ _ ty 26 2 w.heap.size ((i + 1) * 2) _ dc ⟨g, i * 2, none⟩ _ sc _ 26 tl Try.underlying22 hsz hg1 (by rw [htll, show Nat.min (i + 1 + m - i) (i + (m + 2) - (i + 1)) = m + 1 by simp only [Nat.min_def]; split <;> omega]) (fun j v hj => ?_) (by rw [hs1]; omega) htl1
    have hjl : j < (m + 1) * 2 := by rw [← htll]; exact (List.getElem?_eq_some_iff.1 hj).1
    rw [htl, ← dotCells_drop, List.getElem?_drop, ← htk, List.getElem?_take, if_pos (by omega), Array.getElem?_toList] at hj
    rw [Addr.add_lit]
    show W1.cell? _ = _
    rw [(cell_row (hold1.trans hg)).1]
    exact hj
  have HEND : Hid (W2.ownsRow base 26 2 (.slice (some ⟨w.heap.size, 0, none⟩) (i + (m + 2)) G) (i + 1 + m + 1) (dotCells (l.take i ++ d :: l.drop i)) ∧ w.grownBy W2 (some g)) := by
    have hg2 : W2.heap[w.heap.size]? = some (.cells (layc (layc ROW (i * 2) [.int .i64 d.1, .int .i64 d.2]) ((i + 1) * 2) tl) 26 (0, 0)) := by rw [hW2]; exact heap_setCells W1.drew _ _ _ _ _ hg1 (by rw [hs1]; omega) htl1
    refine ⟨⟨by rw [dotCells_length]; simp; omega, .inr ⟨w.heap.size, G, _, by rw [show i + (m + 2) = i + 1 + m + 1 by omega], hbase, hg2, by omega, hGm, by rw [layc_size _ _ _ (by rw [hs1]; omega)]; exact hs1, ?_⟩⟩, ?_⟩
    · have hc : dotCells (l.take i ++ d :: l.drop i) = hd ++ ([.int .i64 d.1, .int .i64 d.2] ++ tl) := by
        rw [dotCells_append, hhd, htl]
        congr 1
      have h1 := layc_past (layc ROW (i * 2) [.int .i64 d.1, .int .i64 d.2]) ((i + 1) * 2) tl (by rw [hs1]; omega)
      have h2 := layc_past ROW (i * 2) [.int .i64 d.1, .int .i64 d.2] (by rw [hRs]; simp; omega)
      simp only [List.length_cons, List.length_nil] at h2
      rw [htll, show (i + 1) * 2 = i * 2 + (0 + 1 + 1) by omega, h2, hRt] at h1
      rw [hc, show (i + 1 + m + 1) * 2 = i * 2 + (0 + 1 + 1) + (m + 1) * 2 by omega, show (i + 1) * 2 = i * 2 + (0 + 1 + 1) by omega, h1, List.append_assoc]
    · have hgr2 : W1.grownBy W2 (some w.heap.size) := by
        rw [hW2]
        exact (⟨rfl, rfl, rfl, Nat.le_refl _, fun _ _ _ => rfl⟩ : W1.grownBy W1.drew (some w.heap.size)).trans (grown_setCells _ _ _ _)
      have hgr := hgr1.trans hgr2
      refine ⟨hgr.os.trans (by rw [hW0]; rfl), hgr.tape.trans (by rw [hW0]; rfl), hgr.output.trans (by rw [hW0]; rfl), by have := hgr.size; omega, fun k hk hne => ?_⟩
      rw [hgr.block k (by omega) (by intro e; injection e; omega), hold0 k hk]
  have hw1 : IntKind.i64.wrap ((i : Int) + 1) = (i : Int) + 1 := by rw [IntKind.wrap_i64]; omega
  have htn : ((i : Int) + 1).toNat = i + 1 := by omega
  have hbd2 : (0 : Int) ≤ (i : Int) + 1 := by omega
  have hbd3 : (i : Int) + 1 ≤ (i : Int) + ((m : Int) + 2) := by omega
  have hbd4 : ¬ (G = i + 1) := by omega
  have hbd5 : ¬ (G = i) := by omega
  have hbd6 : ¬ (i + 1 + m = i) := by omega
  have hbd7 : (i : Int) ≤ (i : Int) + 1 + (m : Int) := by omega
  clear hW0 hW1 hW2 hROW hG hRs hRt hg0 hold0 hg1 hs1 hgr1 hW0s hold1 hold hhd hhdl htl htll htl1 hg hcs htk hv hrow hi hzc
  go_enter Try.func54, Try.ntmps54
  go_wp2_with (first
    | (at_builtin; refine Lib.wpList_append_run _ rfl _ _ _ _ rfl _ _ rfl rfl _ _ (hrz _) ?_)
    | (at_builtin; refine wpList_copy_runI _ rfl _ _ 22 22 rfl _ _ rfl rfl (hcp1 _ _) ?_))
  go_region_law_o (refine step_copy_runI rfl _ _ 22 22 rfl _ _ (by simp [Act.eval, Act.put]) (by simp [Act.eval, Act.put]) (hcp2 _ _ _) ?_)
  go_wp2
  go_ret
  exact ⟨_, rfl, HEND.out⟩

end Go.Proofs.Ytdgjjlffdfpkcaa
