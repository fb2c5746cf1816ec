/- TallySame answers true. -/
import Derived.Test.YtmdeepdediafbaaTallySameFn
namespace Go.Proofs.Ytmdeepdediafbaa
open Go.RowKit

theorem sameT_self (x : Nat → Int) (G : List Dot) : sameT x G x G = true := by
  have h : ∀ o n, eqRows (fun j => x (o + j)) (fun j => x (o + j)) n = true := fun o n => eqRows_true.2 fun _ _ => rfl
  unfold sameT
  rw [h, h, h]
  simp

theorem sameT_inc (x : Nat → Int) (G : List Dot) (i : Nat) (hi : i < 44) : sameT x G (incAt x i) G = false := by
  have h : ∀ o n, o ≤ i → i < o + n → eqRows (fun j => x (o + j)) (fun j => incAt x i (o + j)) n = false := fun o n h1 h2 => by
    rw [← Bool.not_eq_true]
    intro h
    have := eqRows_true.1 h (i - o) (by omega)
    simp only [incAt_eq] at this
    rw [if_pos (by omega)] at this
    omega
  unfold sameT
  rcases (show i = 0 ∨ (1 ≤ i ∧ i < 14) ∨ (14 ≤ i ∧ i < 27) ∨ (27 ≤ i ∧ i < 44) by omega) with rfl | ⟨h1, h2⟩ | ⟨h1, h2⟩ | ⟨h1, h2⟩
  · have : (x 0 == incAt x 0 0) = false := by rw [beq_eq_false_iff_ne, incAt_eq, if_pos rfl]; omega
    rw [this]; simp
  · rw [h 1 13 (by omega) (by omega)]; simp
  · rw [h 14 13 (by omega) (by omega)]; simp
  · rw [h 27 17 (by omega) (by omega)]; simp

theorem DotsV.lt {w : World} {v : Value} {G : List Dot} (h : DotsV w v G) : ∀ q n c, v = .slice (some q) n c → n ≠ 0 → q.block < w.heap.size := by
  obtain ⟨p, c, rfl, h1, h2, d1, d2, d3, d4⟩ := h
  intro q n c' e h0
  cases e
  rcases d4 with d4 | ⟨b, off, hp, hs⟩
  · exact absurd d4 h0
  · cases hp
    exact lt_of_cell (hs 0 (by omega)).1

theorem DotsV.setCell_apart {w : World} {v : Value} {G : List Dot} {B i : Nat} {u : Value} (h : DotsV w v G) (hl : ∀ q n c, v = .slice (some q) n c → n ≠ 0 → q.block ≠ B) : DotsV (w.setCell ⟨B, i, none⟩ u) v G := by
  have := DotsV.setCells (B := B) (o := i) (vs := [u]) h hl
  simpa [World.setCells] using this

/-- A copy of a tally, of which a number is one more. -/
theorem TallyIn.inc {w : World} {U : Nat} {x : Nat → Int} {g : Value} {G : List Dot} (h : TallyIn w U x g G) (hg : ∀ q n c, g = .slice (some q) n c → n ≠ 0 → q.block ≠ U) (i : Nat) (hi : i < 44) : TallyIn (w.setCell ⟨U, i, none⟩ (.int .i64 (x i + 1))) U (incAt x i) g G := by
  refine ⟨fun j v hv => ?_, h.dots.setCell_apart hg⟩
  have hj : j < 45 := by have := (List.getElem?_eq_some_iff.1 hv).1; rw [tallyCells_length] at this; exact this
  rw [Nat.zero_add]
  rcases Nat.lt_or_ge j 44 with h1 | h1
  · rw [tallyCells_num _ g j h1] at hv
    rw [← hv]
    by_cases hij : j = i
    · subst hij
      rw [incAt_eq, if_pos rfl]
      exact World.cell?_setCell_same' _ _ _ (by rw [h.num j h1]; rfl)
    · rw [incAt_eq, if_neg hij, Int.add_zero]
      exact (World.cell?_setCell_other _ _ _ _ (by simp <;> omega)).trans (h.num j h1)
  · obtain rfl : j = 44 := by omega
    rw [tallyCells_giv] at hv
    rw [← hv]
    exact (World.cell?_setCell_other _ _ _ _ (by simp <;> omega)).trans h.giv
theorem TallyIn.other {w : World} {T U i : Nat} {x : Nat → Int} {g u : Value} {G : List Dot} (h : TallyIn w T x g G) (hg : ∀ q n c, g = .slice (some q) n c → n ≠ 0 → q.block ≠ U) (hT : T ≠ U) : TallyIn (w.setCell ⟨U, i, none⟩ u) T x g G :=
  ⟨fun j v hv => (World.cell?_setCell_other _ _ _ _ (by simp <;> omega)).trans (h.rng j v hv), h.dots.setCell_apart hg⟩

set_option maxRecDepth 100000 in
set_option maxHeartbeats 4000000 in
theorem tallySame_walk (p : Option Addr) (n c : Nat) (l : List Ev) (k : Int) (w : World) (hE : Events w p n l) (hk : (Lit.int .i64 k).wf = true) :
    Calls Try.prog 4 #[.slice p n c, .int .i64 k] w fun e w' => e = .returned (.bool true) ∧ Ext w w' := by
  have hkr := wf_i64 hk
  by_cases hn : 200 < n
  · have d0 : decide ((n : Int) > 200) = true := decide_eq_true (by omega)
    go_enter Try.func4, Try.ntmps4
    go_wp2_with fail
    refine (tally_awake _).mono ?_
    rintro e w2 ⟨rfl, g2⟩
    go_wp2
    go_ret
    exact ⟨rfl, g2⟩
  · have d0 : decide ((n : Int) > 200) = false := decide_eq_false (by omega)
    have HE := Lib.hid hE
    clear hE hk
    go_enter Try.func4, Try.ntmps4
    go_wp2_with fail
    refine (tally_of p n c l _ (by omega) HE.out).mono ?_
    rintro e w2 ⟨g, rfl, hd, g2⟩
    have hone := all_oneCell_toArray (tallyCells_one (x := countAll l) hd)
    go_upto_region 4 with (first | ((with_reducible refine store_mid_at 28 5 12 w2.heap.size 0 (tallyCells (countAll l) g).toArray ?_ ?_ (there_cells _ _ rfl _ _ _) (info_cellsA _ _) hone ?_); rfl; rfl; skip))
    generalize hL : ([.int .i64 0, .int .i64 0, .int .i64 0, .int .i64 0, .int .i64 0, .int .i64 0, .int .i64 0, .int .i64 0, .int .i64 0, .int .i64 0, .int .i64 0, .int .i64 0, .int .i64 0, .int .i64 0, .int .i64 0, .int .i64 0, .int .i64 0, .int .i64 0, .int .i64 0, .int .i64 0, .int .i64 0, .int .i64 0, .int .i64 0, .int .i64 0, .int .i64 0, .int .i64 0, .int .i64 0, .int .i64 0, .int .i64 0, .int .i64 0, .int .i64 0, .int .i64 0, .int .i64 0, .int .i64 0, .int .i64 0, .int .i64 0, .int .i64 0, .int .i64 0, .int .i64 0, .int .i64 0, .int .i64 0, .int .i64 0, .int .i64 0, .int .i64 0, .slice none 0 0] : List Value) = L
    have hLs : L.toArray.size = 45 := by rw [← hL]; rfl
    obtain ⟨hT, hx⟩ := laid_cells hd (countAll l) L.toArray hLs 28
    have hTlt : w2.heap.size < ((w2.alloc (.cells L.toArray 28)).setCells w2.heap.size 0 (tallyCells (countAll l) g)).heap.size := lt_of_cell hT.giv
    clear hL hLs hd
    have hx1 := g2.trans hx
    have hwU := hx1.size
    generalize (w2.alloc (.cells L.toArray 28)).setCells w2.heap.size 0 (tallyCells (countAll l) g) = w3 at *
    generalize w2.heap.size = T at *
    have hrT := hT.rng
    have hcl := countAll_le l
    rw [HE.out.1] at hcl
    have HCL := Lib.hid hcl
    clear hx g2 hcl
    go_upto_region 5 with (first | ((with_reducible refine load_mid_gd 28 5 T 0 (tallyCells (countAll l) g) _ ?_ ?_ hrT Try.underlying28 ?_ (info_cells _ _) ?_); rfl; rfl; rfl; skip) | ((with_reducible refine store_mid_at 28 6 13 w3.heap.size 0 (tallyCells (countAll l) g).toArray ?_ ?_ (there_cells _ _ rfl _ _ _) (info_cellsA _ _) hone ?_); rfl; rfl; skip))
    generalize hL2 : ([.int .i64 0, .int .i64 0, .int .i64 0, .int .i64 0, .int .i64 0, .int .i64 0, .int .i64 0, .int .i64 0, .int .i64 0, .int .i64 0, .int .i64 0, .int .i64 0, .int .i64 0, .int .i64 0, .int .i64 0, .int .i64 0, .int .i64 0, .int .i64 0, .int .i64 0, .int .i64 0, .int .i64 0, .int .i64 0, .int .i64 0, .int .i64 0, .int .i64 0, .int .i64 0, .int .i64 0, .int .i64 0, .int .i64 0, .int .i64 0, .int .i64 0, .int .i64 0, .int .i64 0, .int .i64 0, .int .i64 0, .int .i64 0, .int .i64 0, .int .i64 0, .int .i64 0, .int .i64 0, .int .i64 0, .int .i64 0, .int .i64 0, .int .i64 0, .slice none 0 0] : List Value) = L2
    have hL2s : L2.toArray.size = 45 := by rw [← hL2]; rfl
    have hth := World.there_setCells (there_cells w3 L2.toArray hL2s 28 (countAll l) g) w3.heap.size 0 (tallyCells (countAll l) g)
    have hsz : (tallyCells (countAll l) g).toArray.size = 45 := by simp [tallyCells_length]
    rw [hsz] at hth
    have hlow := hT.dots.lt
    obtain ⟨hU, hx2⟩ := laid_cells hT.dots (countAll l) L2.toArray hL2s 28
    have hT4 := hT.ext hx2
    have hx3 := hx1.trans hx2
    clear hL2 hL2s hx1 hx2 hT hrT hone hsz
    generalize (w3.alloc (.cells L2.toArray 28)).setCells w3.heap.size 0 (tallyCells (countAll l) g) = w4 at *
    generalize w3.heap.size = U at *
    generalize Value.agg (tallyCells (countAll l) g).toArray = TV at *
    generalize countAll l = x at *
    generalize giveAll l = G at *
    have HT := Lib.hid hT4
    have HU := Lib.hid hU
    have HTH := Lib.hid hth
    have HX := Lib.hid hx3
    have HLOW := Lib.hid hlow
    clear hT4 hU hth hx3 hlow
    obtain ⟨m, hwm⟩ : ∃ m : Nat, IntKind.u64.wrap k = (m : Int) := by
      refine ⟨(IntKind.u64.wrap k).toNat, ?_⟩
      have : 0 ≤ IntKind.u64.wrap k := by simp [IntKind.wrap, IntKind.signed, IntKind.bits]; omega
      omega
    have ht : ∀ d : Nat, (m : Int).tmod d = ((m % d : Nat) : Int) := fun d => by rw [Int.tmod_eq_emod_of_nonneg (by omega)]; simp
    have h4 := ht 4
    have h13 := ht 13
    have h17 := ht 17
    have l13 : m % 13 < 13 := Nat.mod_lt _ (by omega)
    have l17 : m % 17 < 17 := Nat.mod_lt _ (by omega)
    have l4 : m % 4 < 4 := Nat.mod_lt _ (by omega)
    simp only [Int.cast_ofNat_Int] at h4 h13 h17
    generalize m % 13 = i at *
    generalize m % 17 = j at *
    generalize m % 4 = r at *
    clear ht
    rcases (show r = 0 ∨ r = 1 ∨ r = 2 ∨ r = 3 by omega) with rfl | rfl | rfl | rfl
    · have c1 := HU.out.num 0 (by omega)
      have c2 := (HTH.out 0 (by omega)).2
      rw [Nat.zero_add] at c2
      have b1 := HCL.out 0
      go_upto_region 13 with fail
      have hU5 := HU.out.inc (fun q n c e h0 => by have := HLOW.out q n c e h0; omega) 0 (by omega)
      have hT5 := HT.out.other (U := U) (i := 0) (u := .int .i64 (x 0 + 1)) (fun q n c e h0 => by have := HLOW.out q n c e h0; omega) (by omega)
      have hx5 : Ext w (w4.setCell ⟨U, 0, none⟩ (.int .i64 (x 0 + 1))) := HX.out.setCell hwU _
      have hno := sameT_inc x G 0 (by omega)
      generalize w4.setCell ⟨U, 0, none⟩ (.int .i64 (x 0 + 1)) = w5 at *
      generalize incAt x 0 = y at *
      have rT := hT5.rng
      have HT5 := Lib.hid hT5
      have HU5 := Lib.hid hU5
      have HX5 := Lib.hid hx5
      have HNO := Lib.hid hno
      clear hT5 hU5 hx5 hno c1 c2 b1 HT HU HTH HX HLOW
      go_wp2_with (first | ((with_reducible refine load_mid_gd 28 5 T 0 (tallyCells x g) _ ?_ ?_ rT Try.underlying28 ?_ (info_cells _ _) ?_); rfl; rfl; rfl; skip))
      refine (tally_same x x g g G G _ HT5.out.dots HT5.out.dots).mono ?_
      rw [sameT_self]
      rintro e w6 ⟨rfl, g6⟩
      have hT6 := HT5.out.ext g6
      have hU6 := HU5.out.ext g6
      have rT6 := hT6.rng
      have rU6 := hU6.rng
      have HD6 := Lib.hid hT6.dots
      clear rT hT6 hU6
      go_wp2_with (first | ((with_reducible refine load_mid_gd 28 5 T 0 (tallyCells x g) _ ?_ ?_ rT6 Try.underlying28 ?_ (info_cells _ _) ?_); rfl; rfl; rfl; skip) | ((with_reducible refine load_mid_gd 28 6 U 0 (tallyCells y g) _ ?_ ?_ rU6 Try.underlying28 ?_ (info_cells _ _) ?_); rfl; rfl; rfl; skip))
      refine (tally_same x y g g G G _ HD6.out HD6.out).mono ?_
      rw [HNO.out]
      rintro e w7 ⟨rfl, g7⟩
      clear rT6 rU6
      go_wp2_with fail
      refine (tally_awake _).mono ?_
      rintro e w8 ⟨rfl, g8⟩
      go_wp2
      go_ret
      exact ⟨rfl, HX5.out.trans (g6.trans (g7.trans g8))⟩
    · have c1 := HU.out.num (1 + i) (by omega)
      have c2 := (HTH.out (1 + i) (by omega)).2
      rw [Nat.zero_add] at c2
      have b1 := HCL.out (1 + i)
      have i0 : (0 : Int) ≤ (i : Int) := by omega
      have i1 : (i : Int) < 13 := by omega
      go_upto_region 13 with fail
      have hU5 := HU.out.inc (fun q n c e h0 => by have := HLOW.out q n c e h0; omega) (1 + i) (by omega)
      have hT5 := HT.out.other (U := U) (i := (1 + i)) (u := .int .i64 (x (1 + i) + 1)) (fun q n c e h0 => by have := HLOW.out q n c e h0; omega) (by omega)
      have hx5 : Ext w (w4.setCell ⟨U, 1 + i, none⟩ (.int .i64 (x (1 + i) + 1))) := HX.out.setCell hwU _
      have hno := sameT_inc x G (1 + i) (by omega)
      generalize w4.setCell ⟨U, 1 + i, none⟩ (.int .i64 (x (1 + i) + 1)) = w5 at *
      generalize incAt x (1 + i) = y at *
      have rT := hT5.rng
      have HT5 := Lib.hid hT5
      have HU5 := Lib.hid hU5
      have HX5 := Lib.hid hx5
      have HNO := Lib.hid hno
      clear hT5 hU5 hx5 hno c1 c2 b1 HT HU HTH HX HLOW
      go_wp2_with (first | ((with_reducible refine load_mid_gd 28 5 T 0 (tallyCells x g) _ ?_ ?_ rT Try.underlying28 ?_ (info_cells _ _) ?_); rfl; rfl; rfl; skip))
      refine (tally_same x x g g G G _ HT5.out.dots HT5.out.dots).mono ?_
      rw [sameT_self]
      rintro e w6 ⟨rfl, g6⟩
      have hT6 := HT5.out.ext g6
      have hU6 := HU5.out.ext g6
      have rT6 := hT6.rng
      have rU6 := hU6.rng
      have HD6 := Lib.hid hT6.dots
      clear rT hT6 hU6
      go_wp2_with (first | ((with_reducible refine load_mid_gd 28 5 T 0 (tallyCells x g) _ ?_ ?_ rT6 Try.underlying28 ?_ (info_cells _ _) ?_); rfl; rfl; rfl; skip) | ((with_reducible refine load_mid_gd 28 6 U 0 (tallyCells y g) _ ?_ ?_ rU6 Try.underlying28 ?_ (info_cells _ _) ?_); rfl; rfl; rfl; skip))
      refine (tally_same x y g g G G _ HD6.out HD6.out).mono ?_
      rw [HNO.out]
      rintro e w7 ⟨rfl, g7⟩
      clear rT6 rU6
      go_wp2_with fail
      refine (tally_awake _).mono ?_
      rintro e w8 ⟨rfl, g8⟩
      go_wp2
      go_ret
      exact ⟨rfl, HX5.out.trans (g6.trans (g7.trans g8))⟩
    · have c1 := HU.out.num (27 + j) (by omega)
      have c2 := (HTH.out (27 + j) (by omega)).2
      rw [Nat.zero_add] at c2
      have b1 := HCL.out (27 + j)
      have i0 : (0 : Int) ≤ (j : Int) := by omega
      have i1 : (j : Int) < 17 := by omega
      go_upto_region 13 with fail
      have hU5 := HU.out.inc (fun q n c e h0 => by have := HLOW.out q n c e h0; omega) (27 + j) (by omega)
      have hT5 := HT.out.other (U := U) (i := (27 + j)) (u := .int .i64 (x (27 + j) + 1)) (fun q n c e h0 => by have := HLOW.out q n c e h0; omega) (by omega)
      have hx5 : Ext w (w4.setCell ⟨U, 27 + j, none⟩ (.int .i64 (x (27 + j) + 1))) := HX.out.setCell hwU _
      have hno := sameT_inc x G (27 + j) (by omega)
      generalize w4.setCell ⟨U, 27 + j, none⟩ (.int .i64 (x (27 + j) + 1)) = w5 at *
      generalize incAt x (27 + j) = y at *
      have rT := hT5.rng
      have HT5 := Lib.hid hT5
      have HU5 := Lib.hid hU5
      have HX5 := Lib.hid hx5
      have HNO := Lib.hid hno
      clear hT5 hU5 hx5 hno c1 c2 b1 HT HU HTH HX HLOW
      go_wp2_with (first | ((with_reducible refine load_mid_gd 28 5 T 0 (tallyCells x g) _ ?_ ?_ rT Try.underlying28 ?_ (info_cells _ _) ?_); rfl; rfl; rfl; skip))
      refine (tally_same x x g g G G _ HT5.out.dots HT5.out.dots).mono ?_
      rw [sameT_self]
      rintro e w6 ⟨rfl, g6⟩
      have hT6 := HT5.out.ext g6
      have hU6 := HU5.out.ext g6
      have rT6 := hT6.rng
      have rU6 := hU6.rng
      have HD6 := Lib.hid hT6.dots
      clear rT hT6 hU6
      go_wp2_with (first | ((with_reducible refine load_mid_gd 28 5 T 0 (tallyCells x g) _ ?_ ?_ rT6 Try.underlying28 ?_ (info_cells _ _) ?_); rfl; rfl; rfl; skip) | ((with_reducible refine load_mid_gd 28 6 U 0 (tallyCells y g) _ ?_ ?_ rU6 Try.underlying28 ?_ (info_cells _ _) ?_); rfl; rfl; rfl; skip))
      refine (tally_same x y g g G G _ HD6.out HD6.out).mono ?_
      rw [HNO.out]
      rintro e w7 ⟨rfl, g7⟩
      clear rT6 rU6
      go_wp2_with fail
      refine (tally_awake _).mono ?_
      rintro e w8 ⟨rfl, g8⟩
      go_wp2
      go_ret
      exact ⟨rfl, HX5.out.trans (g6.trans (g7.trans g8))⟩
    · have c1 := HU.out.num (14 + i) (by omega)
      have c2 := (HTH.out (14 + i) (by omega)).2
      rw [Nat.zero_add] at c2
      have b1 := HCL.out (14 + i)
      have i0 : (0 : Int) ≤ (i : Int) := by omega
      have i1 : (i : Int) < 13 := by omega
      go_upto_region 13 with fail
      have hU5 := HU.out.inc (fun q n c e h0 => by have := HLOW.out q n c e h0; omega) (14 + i) (by omega)
      have hT5 := HT.out.other (U := U) (i := (14 + i)) (u := .int .i64 (x (14 + i) + 1)) (fun q n c e h0 => by have := HLOW.out q n c e h0; omega) (by omega)
      have hx5 : Ext w (w4.setCell ⟨U, 14 + i, none⟩ (.int .i64 (x (14 + i) + 1))) := HX.out.setCell hwU _
      have hno := sameT_inc x G (14 + i) (by omega)
      generalize w4.setCell ⟨U, 14 + i, none⟩ (.int .i64 (x (14 + i) + 1)) = w5 at *
      generalize incAt x (14 + i) = y at *
      have rT := hT5.rng
      have HT5 := Lib.hid hT5
      have HU5 := Lib.hid hU5
      have HX5 := Lib.hid hx5
      have HNO := Lib.hid hno
      clear hT5 hU5 hx5 hno c1 c2 b1 HT HU HTH HX HLOW
      go_wp2_with (first | ((with_reducible refine load_mid_gd 28 5 T 0 (tallyCells x g) _ ?_ ?_ rT Try.underlying28 ?_ (info_cells _ _) ?_); rfl; rfl; rfl; skip))
      refine (tally_same x x g g G G _ HT5.out.dots HT5.out.dots).mono ?_
      rw [sameT_self]
      rintro e w6 ⟨rfl, g6⟩
      have hT6 := HT5.out.ext g6
      have hU6 := HU5.out.ext g6
      have rT6 := hT6.rng
      have rU6 := hU6.rng
      have HD6 := Lib.hid hT6.dots
      clear rT hT6 hU6
      go_wp2_with (first | ((with_reducible refine load_mid_gd 28 5 T 0 (tallyCells x g) _ ?_ ?_ rT6 Try.underlying28 ?_ (info_cells _ _) ?_); rfl; rfl; rfl; skip) | ((with_reducible refine load_mid_gd 28 6 U 0 (tallyCells y g) _ ?_ ?_ rU6 Try.underlying28 ?_ (info_cells _ _) ?_); rfl; rfl; rfl; skip))
      refine (tally_same x y g g G G _ HD6.out HD6.out).mono ?_
      rw [HNO.out]
      rintro e w7 ⟨rfl, g7⟩
      clear rT6 rU6
      go_wp2_with fail
      refine (tally_awake _).mono ?_
      rintro e w8 ⟨rfl, g8⟩
      go_wp2
      go_ret
      exact ⟨rfl, HX5.out.trans (g6.trans (g7.trans g8))⟩

end Go.Proofs.Ytmdeepdediafbaa
