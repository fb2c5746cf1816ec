/- slices.Grow of nothing, slices.Concat of two rows of dots. slices.Compact of a row of dots of one's own. -/
import Derived.Test.YtdgjjlffdfpkcaaDotSort
import Derived.Test.YtdgjjlffdfpkcaaWithMem
import Derived.Shelf.Spec.SlicesGrow
import Derived.Test.YtdgjjlffdfpkcaaQuietExt

namespace Go.Proofs.Ytdgjjlffdfpkcaa
open Go.RowKit Go.Shelf Go.Lib
def Try.growDot_ren : Go.Shelf.Ren := ⟨fun | 4 => 60 | n => n, fun | 22 => 22 | 25 => 26 | 3 => 3 | 4 => 4 | 9 => 9 | 20 => 20 | 0 => 0 | 2 => 3 | n => n, fun | n => n⟩
theorem Try.growDot : Go.Proofs.Lays8.n4 Try.prog Try.growDot_ren := {
  mixed := by kernel_rfl,
  f4 := ⟨Try.f60.name, by decide, Try.func60.trans (congrArg some (by kernel_rfl))⟩,
  t0 := Try.underlying0,
  a0 := Try.isAgg0,
  z0 := Try.sizeOf0,
  v0 := Try.zeroValue0,
  t3 := Try.underlying3,
  a3 := Try.isAgg3,
  z3 := Try.sizeOf3,
  v3 := Try.zeroValue3,
  t4 := Try.underlying4,
  a4 := Try.isAgg4,
  z4 := Try.sizeOf4,
  v4 := Try.zeroValue4,
  t9 := Try.underlying9,
  a9 := Try.isAgg9,
  z9 := Try.sizeOf9,
  v9 := Try.zeroValue9,
  t20 := Try.underlying20,
  a20 := Try.isAgg20,
  z20 := Try.sizeOf20,
  v20 := Try.zeroValue20,
  t22 := Try.underlying22,
  a22 := Try.isAgg22,
  z22 := Try.sizeOf22,
  v22 := Try.zeroValue22
}

theorem dots_grow (n : Nat) (hn : n ≤ 1000) (w : World) :
    Calls Try.prog 60 #[.slice none 0 0, .int .i64 n] w fun e w' => ∃ p c, e = .returned (.slice p 0 c) ∧ w'.ownsRow w.heap.size 26 2 (.slice p 0 c) 0 [] ∧ Ext w w' := by
  by_cases h0 : n = 0
  · subst h0
    have h := Any8.slices_Grow_room Try.growDot none 0 0 0 w (Nat.le_refl _) (by omega) (by omega) (Nat.le_refl _)
    refine h.mono ?_
    rintro e w' ⟨rfl, rfl⟩
    exact ⟨none, 0, rfl, World.ownsRow_nil _ _ _ _, Ext.refl _⟩
  · obtain ⟨i0, hi, hz0, hz1, hz2⟩ := info_parts info_dot'
    have h := Any8.slices_Grow_grow Try.growDot i0 _ hi hz0 (by rw [hz1]; omega) none 0 0 n [] w (Nat.le_refl _) (by omega) (by rw [hz2]; omega) (by omega) (by simp) (fun _ => rfl) (fun a ha => by cases ha)
    refine h.mono ?_
    rintro e w' ⟨rfl, rfl⟩
    have hge : 0 + n ≤ grownCap w (0 + n) 0 26 := grownCap_ge w _ _ _
    have hmx : grownCap w (0 + n) 0 26 ≤ maxLen := grownCap_le_maxLen w (0 + n) 0 26 (by unfold maxLen; omega)
    refine ⟨some ⟨w.heap.size, 0, none⟩, grownCap w (0 + n) 0 26, rfl, ⟨rfl, .inr ⟨w.heap.size, _, _, rfl, Nat.le_refl _, heap_alloc_new w.drew _, Nat.zero_le _, hmx, ?_, by simp⟩⟩, (Ext.refl w).drew.alloc _⟩
    have hzc : ∀ m, (Builtin.zeroCells (dotV (0, 0)).cells m).size = m * 2 := fun m => by
      have := size_zeroCells (dotV (0, 0)).cells m
      rw [this]
      rfl
    rw [Array.size_append, Array.size_append, hzc, hzc]
    change _ + _ + (grownCap w (0 + n) 0 26 - (0 + n)) * 2 = _
    generalize grownCap w (0 + n) 0 26 = G at *
    simp
    omega
/-- The rows of a list of two. -/
def catL (l1 l2 : List Dot) (k : Nat) : List Dot := if k = 0 then [] else if k = 1 then l1 else l1 ++ l2

set_option maxRecDepth 100000 in
set_option maxHeartbeats 2000000 in
theorem dots_concat {w : World} {H n1 c1 n2 c2 : Nat} {p1 p2 : Option Addr} {l1 l2 : List Dot} (h0 : w.cell? ⟨H, 0, none⟩ = some (.slice p1 n1 c1)) (h1 : w.cell? ⟨H, 1, none⟩ = some (.slice p2 n2 c2)) (hv1 : DotsV w (.slice p1 n1 c1) l1) (hv2 : DotsV w (.slice p2 n2 c2) l2) (hn1 : n1 ≤ 400) (hn2 : n2 ≤ 400) :
    Calls Try.prog 44 #[.slice (some ⟨H, 0, none⟩) 2 2] w fun e w' => ∃ p c, e = .returned (.slice p (n1 + n2) c) ∧ w'.ownsRow w.heap.size 26 2 (.slice p (n1 + n2) c) (n1 + n2) (dotCells (l1 ++ l2)) ∧ Ext w w' := by
  have e1 : l1.length = n1 ∧ (l1.length = 0 ∨ ∃ b off, p1 = some ⟨b, off, none⟩ ∧ DotsAt w b off l1) := by
    obtain ⟨p, c, he, _, _, hd⟩ := hv1
    injection he with e1 e2 e3
    subst e1
    exact ⟨e2.symm, hd.2.2.2⟩
  have e2 : l2.length = n2 ∧ (l2.length = 0 ∨ ∃ b off, p2 = some ⟨b, off, none⟩ ∧ DotsAt w b off l2) := by
    obtain ⟨p, c, he, _, _, hd⟩ := hv2
    injection he with e1 e2 e3
    subst e1
    exact ⟨e2.symm, hd.2.2.2⟩
  have HA := Lib.hid e1
  have HB := Lib.hid e2
  have HG := Lib.hid (dots_grow (n1 + n2) (by omega) w)
  clear e1 e2 hv1 hv2
  go_enter Try.func44, Try.ntmps44
  go_wp2
  go_loopw [3, 5, 11] (fun s _ i W => ∃ k : Nat, k ≤ 2 ∧ i = .int .i64 k ∧ s = .int .i64 ((if k = 0 then 0 else if k = 1 then n1 else n1 + n2 : Nat)) ∧ w = W) (fun _ _ i _ => 2 - (intOf i).toNat)
  case atStart => exact ⟨0, by omega, rfl, rfl, rfl⟩
  case round =>
    obtain ⟨k, hk, rfl, rfl, rfl⟩ := hrel
    have hk3 : k = 0 ∨ k = 1 ∨ k = 2 := by omega
    rcases hk3 with rfl | rfl | rfl
    · go_wp2
      go_roundw
      case rel => exact ⟨1, by omega, by first | rfl | trivial, by first | rfl | go_num | trivial, by first | rfl | trivial⟩
      case measure => simp [intOf]
    · go_wp2
      go_roundw
      case rel => exact ⟨2, by omega, by first | rfl | trivial, by first | rfl | go_num | trivial, by first | rfl | trivial⟩
      case measure => simp [intOf]
    · go_wp2_with fail
      refine HG.out.mono ?_
      rintro e w1 ⟨p, c, rfl, hown, hx1⟩
      have HOWN := Lib.hid hown
      have HX1 := Lib.hid hx1
      clear hown hx1 HG
      go_wp2
      go_loopw [6, 8, 27] (fun a _ i W => ∃ (k : Nat) (q : Option Addr) (m c : Nat), k ≤ 2 ∧ i = .int .i64 k ∧ a = .slice q m c ∧ Hid ((catL l1 l2 k).length = m) ∧ Hid (W.ownsRow w.heap.size 26 2 (.slice q m c) m (dotCells (catL l1 l2 k))) ∧ Hid (Ext w W)) (fun _ _ i _ => 2 - (intOf i).toNat)
      case atStart => exact ⟨0, p, 0, c, by omega, rfl, rfl, Lib.hid rfl, HOWN, HX1⟩
      case round =>
        obtain ⟨k, q, m, c, hk, rfl, rfl, HL, HR, HE⟩ := hrel
        have z0 := HE.out.cell h0
        have z1 := HE.out.cell h1
        have hk3 : k = 0 ∨ k = 1 ∨ k = 2 := by omega
        rcases hk3 with rfl | rfl | rfl
        · have hm0 : m = 0 := HL.out.symm
          subst hm0
          have HRx : Hid (wr.ownsRow w.heap.size 26 2 (.slice q ([] : List Dot).length c) ([] : List Dot).length (dotCells ([] : List Dot))) := HR
          go_wp2_with (at_builtin; refine append_dots_at 31 32 w.heap.size _ [] l1 p1 c1 n1 HA.out.1.symm rfl rfl HRx.out (HA.out.2.imp id fun ⟨b, off, hp, ha⟩ => ⟨b, off, hp, ha.ext HE.out⟩) (by simp) (by rw [HA.out.1]; omega) HE.out.size ?_; intro v5 w5 hown5 hgrow5; rw [List.nil_append, HA.out.1] at hown5; obtain ⟨q5, c5, rfl⟩ := row_slice hown5; have HX5 := Lib.hid (ext_grownV HE.out HRx.out hgrow5 (Nat.le_refl _)); have HR5 := Lib.hid hown5; clear hown5 hgrow5)
          go_roundw
          case rel => exact ⟨1, q5, n1, c5, by omega, rfl, rfl, Lib.hid HA.out.1, HR5, HX5⟩
          case measure => simp [intOf]
        · have hm1 : m = n1 := by rw [← HL.out, ← HA.out.1]; rfl
          subst hm1
          have HRx : Hid (wr.ownsRow w.heap.size 26 2 (.slice q m c) l1.length (dotCells l1)) := Lib.hid (by have h := HR.out; rw [HA.out.1]; exact h)
          go_wp2_with (at_builtin; refine append_dots_at 31 32 w.heap.size _ l1 l2 p2 c2 n2 HB.out.1.symm rfl rfl HRx.out (HB.out.2.imp id fun ⟨b, off, hp, ha⟩ => ⟨b, off, hp, ha.ext HE.out⟩) (by rw [HA.out.1]; omega) (by rw [HB.out.1]; omega) HE.out.size ?_; intro v5 w5 hown5 hgrow5; rw [List.length_append, HA.out.1, HB.out.1] at hown5; obtain ⟨q5, c5, rfl⟩ := row_slice hown5; have HX5 := Lib.hid (ext_grownV HE.out HRx.out hgrow5 (Nat.le_refl _)); have HR5 := Lib.hid hown5; clear hown5 hgrow5)
          go_roundw
          case rel => exact ⟨2, q5, m + n2, c5, by omega, rfl, rfl, Lib.hid (by show (l1 ++ l2).length = _; rw [List.length_append, HA.out.1, HB.out.1]), HR5, HX5⟩
          case measure => simp [intOf]
        · have hm2 : m = n1 + n2 := by rw [← HL.out, ← HA.out.1, ← HB.out.1, ← List.length_append]; rfl
          subst hm2
          clear z0 z1
          go_wp2
          go_ret
          exact ⟨_, _, rfl, HR.out, HE.out⟩
end Go.Proofs.Ytdgjjlffdfpkcaa

namespace Go.Proofs.Ytdgjjlffdfpkcaa
open Go.RowKit Go.Shelf Go.Lib

/-- Without dots that stand behind their like. -/
def cpt (l : List Dot) : List Dot := l.foldl (fun r x => if r.getLast? = some x then r else r ++ [x]) []
theorem cpt_snoc (l : List Dot) (x : Dot) : cpt (l ++ [x]) = if (cpt l).getLast? = some x then cpt l else cpt l ++ [x] := by unfold cpt; rw [List.foldl_append]; rfl
theorem cpt_next (l : List Dot) (k : Nat) (h : k < l.length) : cpt (l.take (k + 1)) = if (cpt (l.take k)).getLast? = some l[k] then cpt (l.take k) else cpt (l.take k) ++ [l[k]] := by rw [take_next l k h, cpt_snoc]
theorem cpt_last (l : List Dot) : (cpt l).getLast? = l.getLast? := by
  have h : ∀ n, ∀ l : List Dot, l.length = n → (cpt l).getLast? = l.getLast? := by
    intro n
    induction n with
    | zero => intro l hl; obtain rfl := List.length_eq_zero_iff.1 hl; rfl
    | succ n ih =>
      intro l hl
      obtain ⟨m, x, rfl⟩ : ∃ m x, l = m ++ [x] := ⟨l.dropLast, l.getLast (by intro e; rw [e] at hl; cases hl), (List.dropLast_concat_getLast _).symm⟩
      rw [cpt_snoc]
      split
      · rename_i h; rw [h]; simp
      · simp
  exact h _ l rfl
theorem cpt_mem (l : List Dot) (x : Dot) : x ∈ cpt l ↔ x ∈ l := by
  have h : ∀ n, ∀ l : List Dot, l.length = n → (x ∈ cpt l ↔ x ∈ l) := by
    intro n
    induction n with
    | zero => intro l hl; obtain rfl := List.length_eq_zero_iff.1 hl; rfl
    | succ n ih =>
      intro l hl
      obtain ⟨m, y, rfl⟩ : ∃ m x, l = m ++ [x] := ⟨l.dropLast, l.getLast (by intro e; rw [e] at hl; cases hl), (List.dropLast_concat_getLast _).symm⟩
      have hm := ih m (by simpa using hl)
      rw [cpt_snoc, List.mem_append, ← hm]
      split
      · rename_i h
        have := List.mem_of_getLast? h
        constructor
        · exact .inl
        · rintro (h1 | h1)
          · exact h1
          · simp at h1; rw [h1]; exact this
      · rw [List.mem_append]
  exact h _ l rfl
theorem cpt_len (l : List Dot) (k : Nat) (hk : k ≤ l.length) : (cpt (l.take k)).length ≤ k := by
  induction k with
  | zero => simp [cpt]
  | succ k ih =>
    rw [cpt_next l k (by omega)]
    have := ih (by omega)
    split
    · omega
    · rw [List.length_append]; simp; omega
theorem cpt_sorted {l : List Dot} (h : l.Pairwise fun a b => ¬ DS.lt b a) : (cpt l).Pairwise DS.lt := by
  have hh : ∀ n, ∀ l : List Dot, l.length = n → (l.Pairwise fun a b => ¬ DS.lt b a) → (cpt l).Pairwise DS.lt := by
    intro n
    induction n with
    | zero => intro l hl _; obtain rfl := List.length_eq_zero_iff.1 hl; exact .nil
    | succ n ih =>
      intro l hl hp
      obtain ⟨m, x, rfl⟩ : ∃ m x, l = m ++ [x] := ⟨l.dropLast, l.getLast (by intro e; rw [e] at hl; cases hl), (List.dropLast_concat_getLast _).symm⟩
      obtain ⟨p1, _, p3⟩ := List.pairwise_append.1 hp
      have hm := ih m (by simpa using hl) p1
      rw [cpt_snoc]
      split
      · exact hm
      · rename_i hne
        refine List.pairwise_append.2 ⟨hm, List.pairwise_singleton _ _, fun a ha b hb => ?_⟩
        obtain rfl : b = x := by simpa using hb
        have ham := (cpt_mem m a).1 ha
        have h1 := p3 a ham b (by simp)
        rcases DS.lt_tri a b with h2 | h2 | h2
        · exact h2
        · subst h2
          -- a is not the last one: something stands behind it, and ahead of b
          exfalso
          cases hl2 : (cpt m).getLast? with
          | none => rw [List.getLast?_eq_none_iff] at hl2; rw [hl2] at ha; cases ha
          | some z =>
            rw [hl2] at hne
            have hz : z ∈ cpt m := List.mem_of_getLast? hl2
            have hza : z ≠ a := fun e => hne (by rw [e])
            have h3 := p3 z ((cpt_mem m z).1 hz) a (by simp)
            have h4 : DS.lt a z := by
              obtain ⟨m2, hm2⟩ : ∃ m2, cpt m = m2 ++ [z] := by
                obtain ⟨m2, hm2⟩ := List.getLast?_eq_some_iff.1 hl2
                exact ⟨m2, hm2⟩
              rw [hm2] at ha hm
              rcases List.mem_append.1 ha with h5 | h5
              · exact (List.pairwise_append.1 hm).2.2 a h5 z (by simp)
              · simp at h5; exact absurd h5.symm hza
            exact h3 h4
        · exact absurd h2 h1
  exact hh _ l rfl h
theorem cpt_small (l : List Dot) (h : l.length < 2) : cpt l = l := by
  match l, h with
  | [], _ => rfl
  | [a], _ => simp [cpt]

theorem row_set {W : World} {base g n cap : Nat} {E : List Dot} (h : W.ownsRow base 26 2 (.slice (some ⟨g, 0, none⟩) n cap) n (dotCells E)) (hE : E.length = n) (c : Nat) (hc : c < n) (y1 y2 : Int) :
    ((W.setCell ⟨g, c * 2, none⟩ (.int .i64 y1)).setCell ⟨g, c * 2 + 1, none⟩ (.int .i64 y2)).ownsRow base 26 2 (.slice (some ⟨g, 0, none⟩) n cap) n (dotCells (E.set c (y1, y2))) := by
  obtain ⟨cur, hb, hg, hnc, hcm, hcs, htk⟩ := row_cells h
  have hfit : c * 2 + ([.int .i64 y1, .int .i64 y2] : List Value).length ≤ cur.size := by show c * 2 + 2 ≤ _; omega
  have hh := heap_setCells W g (c * 2) 26 cur [.int .i64 y1, .int .i64 y2] hg hfit (by simp [Value.oneCell'])
  refine ⟨by rw [dotCells_len, List.length_set, hE], .inr ⟨g, cap, _, rfl, hb, hh, hnc, hcm, by rw [layc_size _ _ _ hfit]; exact hcs, ?_⟩⟩
  have e0 : E.set c (y1, y2) = E.take c ++ ([(y1, y2)] ++ E.drop (c + 1)) := by rw [List.set_eq_take_append_cons_drop, if_pos (by omega)]; rfl
  have hl : (cur.toList.take (c * 2) ++ ([.int .i64 y1, .int .i64 y2] : List Value)).length = c * 2 + 2 := by simp; omega
  have hd : (cur.toList.drop (c * 2 + 2)).take (n * 2 - (c * 2 + 2)) = (dotCells E).drop ((c + 1) * 2) := by
    rw [← htk, List.drop_take, show (c + 1) * 2 = c * 2 + 2 by omega]
  have ht : cur.toList.take (c * 2) = (dotCells E).take (c * 2) := by rw [← htk, List.take_take, Nat.min_eq_left (by omega)]
  unfold layc
  show ((cur.toList.take (c * 2) ++ [Value.int .i64 y1, Value.int .i64 y2]) ++ cur.toList.drop (c * 2 + 2)).take (n * 2) = _
  rw [List.take_append, hl, List.take_of_length_le (by rw [hl]; omega), hd, ht, e0, dotCells_append, dotCells_append, dotCells_take, dotCells_drop, List.append_assoc]
  rfl
theorem row_at {W : World} {base g n cap : Nat} {E : List Dot} (h : W.ownsRow base 26 2 (.slice (some ⟨g, 0, none⟩) n cap) n (dotCells E)) (hE : E.length = n) (j : Nat) (hj : j < E.length) : W.cell? ⟨g, j * 2, none⟩ = some (.int .i64 E[j].1) ∧ W.cell? ⟨g, j * 2 + 1, none⟩ = some (.int .i64 E[j].2) ∧ W.frozen? ⟨g, j * 2, none⟩ = false ∧ W.frozen? ⟨g, j * 2 + 1, none⟩ = false := by
  obtain ⟨cur, hb, hg, hnc, hcm, hcs, htk⟩ := row_cells h
  have e0 := dotCells_pos E j 0 hj (by omega)
  have e1 := dotCells_pos E j 1 hj (by omega)
  rw [Nat.add_zero] at e0
  have f : ∀ t, t < n * 2 → cur[t]? = (dotCells E)[t]? := fun t ht => by rw [← htk, List.getElem?_take, if_pos ht, Array.getElem?_toList]
  rw [(cell_row hg).1, (cell_row hg).1, (cell_row hg).2, (cell_row hg).2, f _ (by omega), f _ (by omega), e0, e1]
  exact ⟨rfl, rfl, rfl, rfl⟩
theorem run_clear_dots {W : World} {base g n cap : Nat} {E : List Dot} (h : W.ownsRow base 26 2 (.slice (some ⟨g, 0, none⟩) n cap) n (dotCells E)) (hE : E.length = n) (c m cc : Nat) (hc : c + (m + 1) = n) (ty : TypeId) :
    ∃ W', (Builtin.clear_ #[22] ty #[.slice (some ⟨g, c * 2, none⟩) (m + 1) cc]).run Try.prog W = .ok (.tuple #[]) W' ∧ DotsAt W' g 0 (E.take c) ∧ W.grownBy W' (some g) := by
  obtain ⟨cur, hb, hg, hnc, hcm, hcs, htk⟩ := row_cells h
  obtain ⟨Z, hZ⟩ : ∃ Z, (Builtin.zeroCells (Value.agg #[.int .i64 0, .int .i64 0]).cells (m + 1)).toList = Z := ⟨_, rfl⟩
  have hZl : Z.length = (m + 1) * 2 := by rw [← hZ, Array.length_toList, size_zeroCells]; rfl
  have hZ1 : ∀ v ∈ Z, v.oneCell' = true := fun v hv => by
    rw [← hZ] at hv
    unfold Builtin.zeroCells at hv
    simp [Value.cells] at hv
    obtain ⟨i, _, rfl⟩ := hv
    have h3 : i % 2 = 0 ∨ i % 2 = 1 := by omega
    rcases h3 with h3 | h3 <;> rw [h3] <;> rfl
  have hst := run_storeCells_at Try.prog g (c * 2) 26 Z 0 cur W hg (by omega) hZ1
  have hh := heap_setCells W g (c * 2) 26 cur Z hg (by omega) hZ1
  have hrow := setCells_row W g (c * 2) 26 cur Z hg (by omega) hZ1
  refine ⟨W.setCells g (c * 2) Z, ?_, fun i hi => ?_, grown_setCells _ _ _ _⟩
  · have hv := Try.zeroValue26
    rw [hrow]
    simp only [Nat.add_zero] at hst
    simp [Builtin.clear_, run_underlying Try.underlying22, hv, hZ, hst, layc]
  · have hi' : i < c := by rw [List.length_take] at hi; omega
    have hiE : i < E.length := by omega
    obtain ⟨k1, k2, _, _⟩ := row_at h hE i hiE
    rw [(cell_row hg).1] at k1 k2
    have f : ∀ t, t < c * 2 → (layc cur (c * 2) Z)[t]? = cur[t]? := fun t ht => by
      have := layc_to cur (c * 2) Z (by omega)
      have e := congrArg (fun l => l[t]?) this
      simp only [List.getElem?_take, if_pos ht, Array.getElem?_toList] at e
      exact e
    rw [Nat.zero_add, (cell_row hh).1, (cell_row hh).1, f _ (by omega), f _ (by omega), k1, k2, List.getElem_take]
    exact ⟨rfl, rfl⟩

set_option maxRecDepth 100000 in
set_option maxHeartbeats 2000000 in
theorem dots_compact (g cap n base : Nat) (D : List Dot) (hn : D.length = n) (hm : n ≤ 1000) (w : World) (hrow : w.ownsRow base 26 2 (.slice (some ⟨g, 0, none⟩) n cap) n (dotCells D)) :
    Calls Try.prog 46 #[.slice (some ⟨g, 0, none⟩) n cap] w fun e w' => e = .returned (.slice (some ⟨g, 0, none⟩) (cpt D).length cap) ∧ DotsAt w' g 0 (cpt D) ∧ w.grownBy w' (some g) := by
  obtain ⟨cur, hb, hg, hnc, hcm, hcs, htk⟩ := row_cells hrow
  have hcell : ∀ W, Ext w W → ∀ j (h : j < D.length), W.cell? ⟨g, j * 2, none⟩ = some (.int .i64 D[j].1) ∧ W.cell? ⟨g, j * 2 + 1, none⟩ = some (.int .i64 D[j].2) := fun W he j hj => by
    have hbl := (he.block (Array.getElem?_eq_some_iff.1 hg).1).trans hg
    have e0 := dotCells_pos D j 0 hj (by omega)
    have e1 := dotCells_pos D j 1 hj (by omega)
    rw [Nat.add_zero] at e0
    have f : ∀ t, t < n * 2 → cur[t]? = (dotCells D)[t]? := fun t ht => by rw [← htk, List.getElem?_take, if_pos ht, Array.getElem?_toList]
    rw [(cell_row hbl).1, (cell_row hbl).1, f _ (by omega), f _ (by omega), e0, e1]
    exact ⟨rfl, rfl⟩
  have HC := Lib.hid hcell
  have HROW := Lib.hid hrow
  have HN := Lib.hid hn
  clear hcell hrow hn hg htk
  by_cases h2 : n < 2
  · have t0 : decide ((n : Int) < 2) = true := decide_eq_true (by omega)
    go_enter Try.func46, Try.ntmps46
    go_wp2
    go_ret
    rw [cpt_small D (by rw [HN.out]; exact h2), HN.out]
    exact ⟨rfl, fun i hi => by rw [Nat.zero_add]; exact HC.out w (Ext.refl _) i hi, World.grownBy.refl _ _⟩
  · have t0 : decide ((n : Int) < 2) = false := decide_eq_false (by omega)
    go_enter Try.func46, Try.ntmps46
    go_wp2
    go_loopw [3, 4, 5] (fun iv _ _ W => ∃ k : Nat, k + 1 ≤ n ∧ iv = .int .i64 ((k : Int) + 1) ∧ Hid (cpt (D.take (k + 1)) = D.take (k + 1)) ∧ Hid (Ext w W)) (fun iv _ _ _ => n - (intOf iv).toNat)
    case atStart => exact ⟨0, by omega, rfl, Lib.hid (cpt_small _ (by rw [List.length_take]; omega)), Lib.hid (Ext.refl _)⟩
    case round =>
      obtain ⟨k, hk, rfl, HCP, HE⟩ := hrel
      by_cases hlt : k + 1 < n
      · have hk1 : k < D.length := by rw [HN.out]; omega
        have hk2 : k + 1 < D.length := by rw [HN.out]; omega
        have t1 : decide ((k : Int) + 1 < (n : Int)) = true := decide_eq_true (by omega)
        obtain ⟨a1, a2⟩ := HC.out wr HE.out k hk1
        obtain ⟨b1, b2⟩ := HC.out wr HE.out (k + 1) hk2
        have hnx := cpt_next D (k + 1) hk2
        rw [cpt_last, show (D.take (k + 1)).getLast? = some D[k] from (by rw [take_next D k hk1, List.getLast?_append]; rfl)] at hnx
        have htk2 := Lib.hid (take_next D (k + 1) hk2)
        generalize D[k] = x at *
        generalize D[k + 1] = y at *
        obtain ⟨x1, x2⟩ := x
        obtain ⟨y1, y2⟩ := y
        simp only at a1 a2 b1 b2
        have hw : IntKind.i64.wrap ((k : Int) + 1 - 1) = (k : Int) := by rw [Int.add_sub_cancel]; exact IntWalk.i64_in _ ⟨by omega, by omega⟩
        have i0 : (0 : Int) ≤ (k : Int) := by omega
        have i1 : (k : Int) < (n : Int) := by omega
        have i2 : (0 : Int) ≤ (k : Int) + 1 := by omega
        have i3 : (k : Int) + 1 < (n : Int) := by omega
        have i4 : ((k : Int) + 1).toNat = k + 1 := by omega
        clear hk1 hk2
        by_cases e1 : y1 = x1
        · by_cases e2 : y2 = x2
          · subst e1 e2
            rw [if_pos rfl, HCP.out] at hnx
            have HNX := Lib.hid hnx
            clear hnx
            have hcap : ¬ cap = k + 1 := by omega
            go_wp2
            refine wp_region_noPanic ?_
            go_region
            refine NoPanic.normal ?_
            go_wp2
            clear a1 a2 b1 b2 hw i0 i1 i2 i3 i4
            have HRW0 := Lib.hid (row_to HROW.out (HE.out.drew))
            have HGW0 := Lib.hid (grown_of_ext (HE.out.drew) g)
            go_loopw [3, 5] (fun iv kv W => ∃ (j c : Nat) (E : List Dot), k + 2 + j ≤ n ∧ kv = .int .i64 ((j : Int) + 1) ∧ iv = .int .i64 (c : Int) ∧ c ≤ k + 1 + j ∧ Hid (E.length = n) ∧ Hid (E.take c = cpt (D.take (k + 2 + j)) ∧ (cpt (D.take (k + 2 + j))).length = c) ∧ Hid (∀ t, k + 1 + j ≤ t → E[t]? = D[t]?) ∧ Hid (W.ownsRow base 26 2 (.slice (some ⟨g, 0, none⟩) n cap) n (dotCells E)) ∧ Hid (w.grownBy W (some g))) (fun _ kv _ => n - (intOf kv).toNat)
            case atStart => exact ⟨0, k + 1, D, by omega, rfl, by first | rfl | go_num, by omega, HN, Lib.hid ⟨HNX.out.symm, by rw [HNX.out, List.length_take, HN.out]; omega⟩, Lib.hid (fun _ _ => rfl), HRW0, HGW0⟩
            case round =>
              obtain ⟨j, c, E, hj, rfl, rfl, hc, HEL, HET, HED, HRW, HGW⟩ := hrel
              by_cases hjl : k + 2 + j < n
              · have hd1 : k + 1 + j < D.length := by rw [HN.out]; omega
                have hd2 : k + 2 + j < D.length := by rw [HN.out]; omega
                have he1 : k + 1 + j < E.length := by rw [HEL.out]; omega
                have he2 : k + 2 + j < E.length := by rw [HEL.out]; omega
                have hec : c < E.length := by rw [HEL.out]; omega
                obtain ⟨a1, a2, _, _⟩ := row_at HRW.out HEL.out (k + 1 + j) he1
                obtain ⟨b1, b2, _, _⟩ := row_at HRW.out HEL.out (k + 2 + j) he2
                obtain ⟨c1, c2, c3, c4⟩ := row_at HRW.out HEL.out c hec
                have ex : E[k + 1 + j] = D[k + 1 + j] := by
                  have := HED.out (k + 1 + j) (by omega)
                  rw [List.getElem?_eq_getElem he1, List.getElem?_eq_getElem hd1] at this
                  injection this
                have ey : E[k + 2 + j] = D[k + 2 + j] := by
                  have := HED.out (k + 2 + j) (by omega)
                  rw [List.getElem?_eq_getElem he2, List.getElem?_eq_getElem hd2] at this
                  injection this
                rw [ex] at a1 a2
                rw [ey] at b1 b2
                have hnx := cpt_next D (k + 2 + j) hd2
                rw [cpt_last, show (D.take (k + 2 + j)).getLast? = some D[k + 1 + j] from (by rw [show k + 2 + j = k + 1 + j + 1 by omega, take_next D (k + 1 + j) hd1, List.getLast?_append]; rfl)] at hnx
                generalize D[k + 1 + j] = x at *
                generalize D[k + 2 + j] = y at *
                generalize E[c] = z at *
                obtain ⟨x1, x2⟩ := x
                obtain ⟨y1', y2'⟩ := y
                obtain ⟨z1, z2⟩ := z
                simp only at a1 a2 b1 b2 c1 c2
                rw [show (k + 1 + j) * 2 = (k + 1) * 2 + j * 2 by omega] at a1 a2
                rw [show (k + 2 + j) * 2 = (k + 1) * 2 + (j + 1) * 2 by omega] at b1 b2
                have t2 : decide ((j : Int) + 1 < ((n - (k + 1) : Nat) : Int)) = true := decide_eq_true (by omega)
                have hw : IntKind.i64.wrap ((j : Int) + 1 - 1) = (j : Int) := by rw [Int.add_sub_cancel]; exact IntWalk.i64_in _ ⟨by omega, by omega⟩
                have i0 : (0 : Int) ≤ (j : Int) := by omega
                have i1 : (j : Int) < ((n - (k + 1) : Nat) : Int) := by omega
                have i2 : (0 : Int) ≤ (j : Int) + 1 := by omega
                have i3 : (j : Int) + 1 < ((n - (k + 1) : Nat) : Int) := by omega
                have i4 : ((j : Int) + 1).toNat = j + 1 := by omega
                have i5 : (0 : Int) ≤ (c : Int) := by omega
                have i6 : (c : Int) < (n : Int) := by omega
                clear ex ey hd1 hd2 he1 he2
                by_cases e1 : y1' = x1
                · by_cases e2 : y2' = x2
                  · subst e1 e2
                    rw [if_pos rfl] at hnx
                    have HNX2 := Lib.hid hnx
                    clear hnx
                    go_wp2
                    refine wp_region_noPanic ?_
                    go_region
                    refine NoPanic.normal ?_
                    go_wp2
                    go_roundw
                    case rel => exact ⟨j + 1, c, E, by omega, by go_num, rfl, by omega, HEL, Lib.hid (by rw [show k + 2 + (j + 1) = k + 2 + j + 1 by omega, HNX2.out]; exact HET.out), Lib.hid (fun t ht => HED.out t (by omega)), Lib.hid (row_to HRW.out ((Ext.refl _).drewN 1)), Lib.hid (HGW.out.trans (grown_of_ext ((Ext.refl _).drewN 1) g))⟩
                    case measure => simp [intOf]; omega
                  · subst e1
                    have hne : ¬ (some ((y1', x2) : Dot) = some (y1', y2')) := fun e => e2 (by cases e; rfl)
                    rw [if_neg hne] at hnx
                    have HNX2 := Lib.hid hnx
                    clear hnx hne
                    go_wp2
                    refine wp_region_noPanic ?_
                    go_region
                    refine NoPanic.normal ?_
                    go_wp2
                    refine ⟨⟨j + 1, c + 1, E.set c (y1', y2'), by omega, by first | rfl | go_num, by first | rfl | go_num, by omega, Lib.hid (by rw [List.length_set]; exact HEL.out), Lib.hid ⟨?_, ?_⟩, Lib.hid (fun t ht => by rw [List.getElem?_set_ne (by omega)]; exact HED.out t (by omega)), Lib.hid (row_to (row_set HRW.out HEL.out c (by omega) y1' y2') ((Ext.refl _).drew)), Lib.hid ((HGW.out.trans ((grown_setCell _ _ _ _).trans (grown_setCell _ _ _ _))).trans (grown_of_ext ((Ext.refl _).drew) g))⟩, by simp [intOf]; omega⟩
                    · rw [show k + 2 + (j + 1) = k + 2 + j + 1 by omega, HNX2.out, ← HET.out.1, take_next _ c (by rw [List.length_set]; exact hec), List.take_set_of_le (Nat.le_refl _)]
                      simp
                    · rw [show k + 2 + (j + 1) = k + 2 + j + 1 by omega, HNX2.out, List.length_append, HET.out.2]; rfl
                · have hne : ¬ (some ((x1, x2) : Dot) = some (y1', y2')) := fun e => e1 (by cases e; rfl)
                  rw [if_neg hne] at hnx
                  have HNX2 := Lib.hid hnx
                  clear hnx hne
                  go_wp2
                  refine wp_region_noPanic ?_
                  go_region
                  refine NoPanic.normal ?_
                  go_wp2
                  refine ⟨⟨j + 1, c + 1, E.set c (y1', y2'), by omega, by first | rfl | go_num, by first | rfl | go_num, by omega, Lib.hid (by rw [List.length_set]; exact HEL.out), Lib.hid ⟨?_, ?_⟩, Lib.hid (fun t ht => by rw [List.getElem?_set_ne (by omega)]; exact HED.out t (by omega)), Lib.hid (row_to (row_set HRW.out HEL.out c (by omega) y1' y2') ((Ext.refl _).drew)), Lib.hid ((HGW.out.trans ((grown_setCell _ _ _ _).trans (grown_setCell _ _ _ _))).trans (grown_of_ext ((Ext.refl _).drew) g))⟩, by simp [intOf]; omega⟩
                  · rw [show k + 2 + (j + 1) = k + 2 + j + 1 by omega, HNX2.out, ← HET.out.1, take_next _ c (by rw [List.length_set]; exact hec), List.take_set_of_le (Nat.le_refl _)]
                    simp
                  · rw [show k + 2 + (j + 1) = k + 2 + j + 1 by omega, HNX2.out, List.length_append, HET.out.2]; rfl
              · obtain rfl : n = k + 2 + j := by omega
                have t2 : decide ((j : Int) + 1 < ((k + 2 + j - (k + 1) : Nat) : Int)) = false := decide_eq_false (by omega)
                obtain ⟨W', hcl, hdots, hgr⟩ := run_clear_dots HRW.out HEL.out c (k + 2 + j - (c + 1)) (cap - c) (by omega) 0
                rw [show k + 2 + j - (c + 1) + 1 = k + 2 + j - c by omega] at hcl
                have i5 : (0 : Int) ≤ (c : Int) := by omega
                have i6 : (c : Int) ≤ ((k + 2 + j : Nat) : Int) := by omega
                have i7 : (c : Int) ≤ (cap : Int) := by omega
                have hcap2 : ¬ cap = c := by omega
                have HD9 := Lib.hid hdots
                have HG9 := Lib.hid hgr
                clear hdots hgr
                go_wp2
                go_ret
                have hD : D.take (k + 2 + j) = D := List.take_of_length_le (by rw [HN.out]; exact Nat.le_refl _)
                have h8 := HET.out
                rw [hD] at h8
                rw [h8.2, ← h8.1]
                exact ⟨rfl, HD9.out, HGW.out.trans HG9.out⟩
          · have hne : ¬ (some ((x1, x2) : Dot) = some (y1, y2)) := fun e => e2 (by cases e; rfl)
            rw [if_neg hne] at hnx
            have HNX := Lib.hid hnx
            clear hnx hne
            go_wp2
            refine wp_region_noPanic ?_
            go_region
            refine NoPanic.normal ?_
            go_wp2
            go_roundw
            case rel => exact ⟨k + 1, by omega, by go_num, Lib.hid (by rw [HNX.out, HCP.out, htk2.out]), Lib.hid (HE.out.drewN 1)⟩
            case measure => simp [intOf]; omega
        · have hne : ¬ (some ((x1, x2) : Dot) = some (y1, y2)) := fun e => e1 (by cases e; rfl)
          rw [if_neg hne] at hnx
          have HNX := Lib.hid hnx
          clear hnx hne
          go_wp2
          refine wp_region_noPanic ?_
          go_region
          refine NoPanic.normal ?_
          go_wp2
          go_roundw
          case rel => exact ⟨k + 1, by omega, by go_num, Lib.hid (by rw [HNX.out, HCP.out, htk2.out]), Lib.hid (HE.out.drewN 1)⟩
          case measure => simp [intOf]; omega
      · obtain rfl : k + 1 = n := by omega
        have t1 : decide ((k : Int) + 1 < ((k + 1 : Nat) : Int)) = false := decide_eq_false (by omega)
        have hcp := HCP.out
        rw [List.take_of_length_le (by rw [HN.out]; exact Nat.le_refl _)] at hcp
        have HCD := Lib.hid hcp
        clear hcp
        go_wp2
        go_ret
        rw [HCD.out, HN.out]
        exact ⟨rfl, fun i hi => by rw [Nat.zero_add]; exact HC.out wr HE.out i hi, grown_of_ext HE.out g⟩
end Go.Proofs.Ytdgjjlffdfpkcaa
