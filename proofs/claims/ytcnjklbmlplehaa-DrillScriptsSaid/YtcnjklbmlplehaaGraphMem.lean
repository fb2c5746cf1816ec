/- A graph in memory; Peers, there; whether a link is in a list. -/
import Derived.Test.YtcnjklbmlplehaaEdgesMem
import Derived.Test.YtcnjklbmlplehaaLinkPlain
namespace Go.Proofs.Ytcnjklbmlplehaa
open Go.RowKit

def LksAt (w : World) (b o : Nat) (l : List GR.Lk) : Prop := ∀ i (h : i < l.length), w.cell? ⟨b, o + i, none⟩ = some (cz l[i])
theorem LksAt.ext {w w' : World} {b o : Nat} {l : List GR.Lk} (h : LksAt w b o l) (he : Ext w w') : LksAt w' b o l := fun i hi => he.cell (h i hi)
/-- A slice of links. -/
def LksV (w : World) (p : Option Addr) (l : List GR.Lk) : Prop := l.length = 0 ∨ ∃ b o, p = some ⟨b, o, none⟩ ∧ LksAt w b o l
theorem LksV.ext {w w' : World} {p : Option Addr} {l : List GR.Lk} (h : LksV w p l) (he : Ext w w') : LksV w' p l := h.imp id fun ⟨b, o, hp, hs⟩ => ⟨b, o, hp, hs.ext he⟩
def lkCells (l : List GR.Lk) : List Value := l.map cz
theorem lkCells_app (l : List GR.Lk) (z : GR.Lk) : lkCells (l ++ [z]) = lkCells l ++ [cz z] := by unfold lkCells; rw [List.map_append]; rfl
theorem row_lks {W : World} {base : Nat} {e : TypeId} {p : Option Addr} {c : Nat} {l : List GR.Lk} (h : W.ownsRow base e 1 (.slice p l.length c) l.length (lkCells l)) : LksV W p l := by
  rcases h.2 with ⟨e, h0⟩ | ⟨g, cap, cur, e, hb, hg, hn, hc, hs, hx⟩
  · exact .inl h0
  · injection e with e1 e2 e3
    subst e1
    refine .inr ⟨g, 0, rfl, fun i hi => ?_⟩
    have k1 := h.cellAt i (by omega)
    rw [Nat.zero_add]
    subst e3
    rw [k1]
    unfold lkCells
    rw [List.getElem?_map, List.getElem?_eq_getElem hi]
    rfl

/-- A graph, in a block. -/
structure GraphAt (w : World) (B : Nat) (n : Nat) (adj : Nat → Nat → Bool) (p : Option Addr) (c : Nat) : Prop where
  two : Two w B 59 (.int .i64 n) (.slice p (GR.links n adj).length c)
  lks : LksV w p (GR.links n adj)
  pos : 1 ≤ n
  le : n ≤ 64
  gr : GR.Gr n adj
  irr : ∀ u, adj u u = false
theorem GraphAt.ext {w w' : World} {B n : Nat} {adj : Nat → Nat → Bool} {p : Option Addr} {c : Nat} (h : GraphAt w B n adj p c) (he : Ext w w') : GraphAt w' B n adj p c := ⟨h.two.ext he, h.lks.ext he, h.pos, h.le, h.gr, h.irr⟩
def GraphV (w : World) (v : Value) (n : Nat) (adj : Nat → Nat → Bool) : Prop := ∃ B p c, v = .pointer (some ⟨B, 0, none⟩) ∧ GraphAt w B n adj p c
theorem GraphV.ext {w w' : World} {v : Value} {n : Nat} {adj : Nat → Nat → Bool} (h : GraphV w v n adj) (he : Ext w w') : GraphV w' v n adj := by
  obtain ⟨B, p, c, e, h⟩ := h
  exact ⟨B, p, c, e, h.ext he⟩

set_option maxRecDepth 100000 in
theorem graph_peers (B n : Nat) (w : World) (h : w.cell? ⟨B, 0, none⟩ = some (.int .i64 n)) :
    Calls Try.prog 35 #[.pointer (some ⟨B, 0, none⟩)] w fun e w' => e = .returned (.int .i64 n) ∧ w = w' := by
  go_enter Try.func35, Try.ntmps35
  go_wp2
  go_ret
  exact ⟨rfl, rfl⟩
set_option maxRecDepth 100000 in
theorem graph_peers_nil (w : World) :
    Calls Try.prog 35 #[.pointer none] w fun e w' => e = .returned (.int .i64 0) ∧ w = w' := by
  go_enter Try.func35, Try.ntmps35
  go_wp2
  go_ret
  exact ⟨rfl, rfl⟩

set_option maxRecDepth 100000 in
theorem graph_there (B n : Nat) (p : Int) (w : World) (h : w.cell? ⟨B, 0, none⟩ = some (.int .i64 n)) :
    Calls Try.prog 22 #[.pointer (some ⟨B, 0, none⟩), .int .i64 p] w fun e w' => e = .returned (.bool (decide (0 ≤ p ∧ p < n))) ∧ w = w' := by
  have HP := Lib.hid (graph_peers B n w h)
  by_cases h1 : 0 ≤ p
  · by_cases h2 : p < n
    · rw [decide_eq_true ⟨h1, h2⟩]
      have f2 : decide (p < (n : Int)) = true := decide_eq_true h2
      go_enter Try.func22, Try.ntmps22
      go_wp2_with fail
      refine HP.out.mono ?_
      rintro e w1 ⟨rfl, rfl⟩
      go_wp2
      go_ret
      exact ⟨rfl, rfl⟩
    · rw [decide_eq_false (by omega)]
      have f2 : decide (p < (n : Int)) = false := decide_eq_false h2
      go_enter Try.func22, Try.ntmps22
      go_wp2_with fail
      refine HP.out.mono ?_
      rintro e w1 ⟨rfl, rfl⟩
      go_wp2
      go_ret
      exact ⟨rfl, rfl⟩
  · rw [decide_eq_false (by omega)]
    have f1 : decide (0 ≤ p) = false := decide_eq_false h1
    go_enter Try.func22, Try.ntmps22
    go_wp2
    go_ret
    exact ⟨rfl, rfl⟩

set_option maxRecDepth 100000 in
theorem graph_there_nil (p : Int) (w : World) :
    Calls Try.prog 22 #[.pointer none, .int .i64 p] w fun e w' => e = .returned (.bool false) ∧ w = w' := by
  by_cases h1 : 0 ≤ p
  · have f2 : decide (p < 0) = false := decide_eq_false (by omega)
    go_enter Try.func22, Try.ntmps22
    go_wp2_with fail
    refine (graph_peers_nil w).mono ?_
    rintro e w1 ⟨rfl, rfl⟩
    go_wp2
    go_ret
    exact ⟨rfl, rfl⟩
  · have f1 : decide (0 ≤ p) = false := decide_eq_false h1
    go_enter Try.func22, Try.ntmps22
    go_wp2
    go_ret
    exact ⟨rfl, rfl⟩

/-- Small links. -/
def Sm (z : GR.Lk) : Prop := z.1 < 64 ∧ z.2 < 64
theorem ordOf_eq (a b : Nat) : (some (ordOf a b) == some Ordering.eq) = decide (a = b) := by
  unfold ordOf
  rcases Nat.lt_trichotomy a b with h | h | h
  · rw [if_pos h, decide_eq_false (by omega)]; rfl
  · rw [if_neg (by omega), if_pos h, decide_eq_true h]; rfl
  · rw [if_neg (by omega), if_neg (by omega), decide_eq_false (by omega)]; rfl
theorem run_eql_cz {x y : GR.Lk} (hx : Sm x) (hy : Sm y) (w : World) : (binOp .eql 60 (cz x) (cz y)).run Try.prog w = .ok (.bool (decide (x = y))) w := by
  unfold cz
  rw [run_eql_complex, fb_order hx.1 hy.1, fb_order hx.2 hy.2, ordOf_eq, ordOf_eq]
  congr 2
  rw [Bool.eq_iff_iff]
  simp [Prod.ext_iff]

theorem run_guard_cz (o1 o2 : Operand) (x y : GR.Lk) (w : World) : (eqGuard .eql 60 o1 o2 (cz x) (cz y)).run Try.prog w = .ok () w := rfl

set_option maxRecDepth 100000 in
set_option maxHeartbeats 1000000 in
theorem index_lk_some (b o n c : Nat) (l : List GR.Lk) (z : GR.Lk) (w : World) (hn : l.length = n) (hm : n ≤ 100000) (hl : LksAt w b o l) (hs : ∀ x ∈ l, Sm x) (hz : Sm z) :
    Calls Try.prog 39 #[.slice (some ⟨b, o, none⟩) n c, cz z] w fun e w' => (∃ i : Int, e = .returned (.int .i64 i) ∧ decide (i ≥ 0) = decide (z ∈ l)) ∧ w = w' := by
  have HL := Lib.hid hl
  have HN := Lib.hid hn
  have HS := Lib.hid hs
  have HZ := Lib.hid (fun y (hy : Sm y) => run_eql_cz hz hy)
  have HGD := Lib.hid (fun o1 o2 y => run_guard_cz o1 o2 z y)
  obtain ⟨v, hv⟩ : ∃ v, cz z = v := ⟨_, rfl⟩
  rw [hv] at HZ HGD ⊢
  clear hl hn hs hv
  go_enter Try.func39, Try.ntmps39
  go_wp2
  go_loopw [8] (fun i wr => ∃ (k : Nat), k ≤ n ∧ i = .int .i64 k ∧ z ∉ l.take k ∧ w = wr) (fun i _ => n - (intOf i).toNat)
  case atStart => exact ⟨0, by omega, rfl, by simp, rfl⟩
  case round =>
    obtain ⟨k, hk, rfl, hno, rfl⟩ := hrel
    by_cases hlt : k < n
    · have hkl : k < l.length := by rw [HN.out]; exact hlt
      have a1 := HL.out k hkl
      have hq := HZ.out l[k] (HS.out _ (List.getElem_mem hkl)) w
      have hmem : l[k] ∈ l := List.getElem_mem hkl
      have hnx := take_next l k hkl
      generalize l[k] = d at *
      obtain ⟨u, hu⟩ : ∃ u, cz d = u := ⟨_, rfl⟩
      have hgd := fun o1 o2 => HGD.out o1 o2 d w
      rw [hu] at a1 hq hgd
      clear hu
      have HNO := Lib.hid hno
      have HNX := Lib.hid hnx
      clear hno hnx
      by_cases he : z = d
      · rw [decide_eq_true he] at hq
        have HE := Lib.hid (decide_eq_true (p := z ∈ l) (by rw [he]; exact hmem))
        have hk0 : (0 : Int) ≤ k := Int.natCast_nonneg k
        clear he hmem
        go_wp2
        go_ret
        exact ⟨⟨k, rfl, by rw [HE.out]; exact decide_eq_true hk0⟩, rfl⟩
      · rw [decide_eq_false he] at hq
        have HE := Lib.hid he
        clear he hmem
        go_wp2
        go_roundw
        case rel => exact ⟨k + 1, by omega, by go_num, by rw [HNX.out, List.mem_append, List.mem_singleton]; exact fun h => h.elim HNO.out HE.out, trivial⟩
        case measure => simp [intOf]; omega
    · obtain rfl : k = n := by omega
      rw [List.take_of_length_le (by rw [HN.out]; omega)] at hno
      have HE := Lib.hid (decide_eq_false hno)
      clear hno
      go_wp2
      go_ret
      exact ⟨⟨-1, rfl, by rw [HE.out]; rfl⟩, rfl⟩

set_option maxRecDepth 100000 in
theorem index_lk_nil (q : Option Addr) (c : Nat) (v : Value) (w : World) :
    Calls Try.prog 39 #[.slice q 0 c, v] w fun e w' => e = .returned (.int .i64 (-1)) ∧ w = w' := by
  go_enter Try.func39, Try.ntmps39
  go_wp2
  refine wp_loop_rounds 1 ?_
  rw [rounds_succ]
  go_wp2
  go_ret
  exact ⟨rfl, rfl⟩

set_option maxRecDepth 100000 in
theorem contains_lk (p : Option Addr) (c : Nat) (l : List GR.Lk) (z : GR.Lk) (w : World) (hm : l.length ≤ 100000) (hl : LksV w p l) (hs : ∀ x ∈ l, Sm x) (hz : Sm z) :
    Calls Try.prog 24 #[.slice p l.length c, cz z] w fun e w' => e = .returned (.bool (decide (z ∈ l))) ∧ w = w' := by
  have hi : Calls Try.prog 39 #[.slice p l.length c, cz z] w fun e w' => (∃ i : Int, e = .returned (.int .i64 i) ∧ decide (i ≥ 0) = decide (z ∈ l)) ∧ w = w' := by
    rcases hl with h0 | ⟨b, o, rfl, hl⟩
    · obtain rfl := List.length_eq_zero_iff.1 h0
      refine (index_lk_nil p c _ w).mono ?_
      rintro e w' ⟨rfl, rfl⟩
      exact ⟨⟨-1, rfl, rfl⟩, rfl⟩
    · exact index_lk_some b o l.length c l z w rfl hm hl hs hz
  have HI := Lib.hid hi
  obtain ⟨v, hv⟩ : ∃ v, cz z = v := ⟨_, rfl⟩
  rw [hv] at HI ⊢
  obtain ⟨r, hr⟩ : ∃ r, decide (z ∈ l) = r := ⟨_, rfl⟩
  rw [hr] at HI ⊢
  generalize l.length = n at *
  clear hi hv hr hm
  go_enter Try.func24, Try.ntmps24
  go_wp2_with fail
  refine HI.out.mono ?_
  rintro e w1 ⟨⟨i, rfl, hir⟩, rfl⟩
  have HIR := Lib.hid hir
  clear hir
  go_wp2
  go_ret
  exact ⟨by rw [← HIR.out]; rfl, rfl⟩
end Go.Proofs.Ytcnjklbmlplehaa
