/- slices.Clone of dots, and slices.Insert whatever the row. -/
import Derived.Test.YtdgjjlffdfpkcaaInsert
namespace Go.Proofs.Ytdgjjlffdfpkcaa
open Go.RowKit Go.Shelf Go.Lib

set_option maxRecDepth 100000 in
theorem dots_clone_some (a : Addr) (n c : Nat) (l : List Dot) (w : World) (hn : l.length = n) (hm : n ≤ 1000000) (hc : ∀ j u, (dotCells l)[j]? = some u → w.cell? (a.add j) = some u) :
    Calls Try.prog 55 #[.slice (some a) n c] w fun e w' => ∃ v', e = .returned v' ∧ w'.ownsRow w.heap.size 26 2 v' n (dotCells l) ∧ Ext w w' := by
  obtain ⟨i0, hi, hz0, hz1, hz2⟩ := info_parts info_dot'
  have Hi := Lib.hid hi
  have hl : (dotCells l).length = n * 2 := by rw [dotCells_length, hn]
  have h1 := dotCells_one l
  have A : Aside (∀ j u, (dotCells l)[j]? = some u → w.cell? (a.add j) = some u) := hc
  generalize dotCells l = news at *
  clear hi hc
  have q22 : ∀ (w : World) (a : Option Addr) (n c n' c' : Nat), (binOp .eql 22 (.slice a n c) (.slice none n' c')).run Try.prog w = .ok (.bool a.isNone) w := fun w a n c n' c' => Lib.run_eql_slice_nil w _ _ a n c n' c' Try.underlying22
  go_enter Try.func55, Try.ntmps55
  go_wp2_with (at_builtin; refine wpList_append_own _ rfl _ _ 22 rfl w.heap.size 26 i0 (dotV (0, 0)) 2 16 Try.underlying22 Hi.out hz0 hz1 hz2 rfl (by decide) _ _ _ rfl (World.ownsRow_made w #[] 0 (Nat.le_refl _) (Nat.zero_le _) (by simp)) a n c news rfl ?qc1 ?qc2 ?qc3 ?qc4 ?qc5 ?qc6 ?_)
  case qc1 => exact hl
  case qc2 =>
    intro j u hj
    exact ((Ext.refl w).alloc _).cell (A.out j u hj)
  case qc3 => exact h1
  case qc4 => rw [Nat.zero_add]; unfold maxLen; omega
  case qc5 => rw [Nat.zero_add]; omega
  case qc6 => simp
  intro v' w1 hown hgrow hnil
  go_wp2
  go_ret
  refine ⟨v', rfl, by simpa using hown, ?_⟩
  exact ((Ext.refl w).alloc _).grown hgrow (by intro k hk; simp [Value.ownBlock] at hk; omega)

set_option maxRecDepth 100000 in
theorem dots_clone_nil (n c : Nat) (w : World) :
    Calls Try.prog 55 #[.slice none n c] w fun e w' => e = .returned (.slice none 0 0) ∧ w = w' := by
  have q22 : ∀ (w : World) (a : Option Addr) (n c n' c' : Nat), (binOp .eql 22 (.slice a n c) (.slice none n' c')).run Try.prog w = .ok (.bool a.isNone) w := fun w a n c n' c' => Lib.run_eql_slice_nil w _ _ a n c n' c' Try.underlying22
  go_enter Try.func55, Try.ntmps55
  go_wp2
  go_ret
  exact ⟨rfl, rfl⟩

theorem dots_at_cells {w : World} {b off : Nat} {l : List Dot} (h : DotsAt w b off l) : ∀ j u, (dotCells l)[j]? = some u → w.cell? ((⟨b, off, none⟩ : Addr).add j) = some u := by
  intro j u hj
  have hjl : j < l.length * 2 := by rw [← dotCells_length]; exact (List.getElem?_eq_some_iff.1 hj).1
  rw [Addr.add_lit]
  have k := dotCells_at l (j / 2) (by omega)
  have k2 := h (j / 2) (by omega)
  rcases Nat.mod_two_eq_zero_or_one j with hp | hp
  · have e : j / 2 * 2 = j := by omega
    rw [e] at k k2
    rw [k2.1, ← k.1]; exact hj
  · have e : j / 2 * 2 + 1 = j := by omega
    rw [Nat.add_assoc, e] at k2
    rw [e] at k
    rw [k2.2, ← k.2]; exact hj

/-- slices.Clone: the same dots, in a row of the call's own. -/
theorem dots_clone (v : Value) (l : List Dot) (w : World) (h : DotsV w v l) (hm : l.length ≤ 1000000) :
    Calls Try.prog 55 #[v] w fun e w' => ∃ v', e = .returned v' ∧ w'.ownsRow w.heap.size 26 2 v' l.length (dotCells l) ∧ Ext w w' := by
  obtain ⟨p, c, rfl, _, _, _, _, _, hd⟩ := h
  cases p with
  | none =>
    refine (dots_clone_nil _ c w).mono ?_
    rintro e w' ⟨rfl, rfl⟩
    rcases hd with h0 | ⟨b, off, h0, _⟩
    · have hl : l = [] := List.eq_nil_of_length_eq_zero h0
      subst hl
      exact ⟨_, rfl, World.ownsRow_nil _ _ _ _, Ext.refl _⟩
    · cases h0
  | some a =>
    refine dots_clone_some a _ c l w rfl hm ?_
    rcases hd with h0 | ⟨b, off, h0, hs⟩
    · have hl : l = [] := List.eq_nil_of_length_eq_zero h0
      subst hl
      intro j u hj
      simp [dotCells] at hj
    · injection h0 with h0
      subst h0
      exact dots_at_cells hs

/-- slices.Insert of one dot, whatever the row of one's own. -/
theorem dots_insert (v : Value) (i vb base : Nat) (l : List Dot) (d : Dot) (w : World) (hi : i ≤ l.length) (hm : l.length ≤ 1000000) (hrow : w.ownsRow base 26 2 v l.length (dotCells l)) (hbase : base ≤ w.heap.size)
    (hv : w.heap[vb]? = some (.cells #[.int .i64 d.1, .int .i64 d.2] 26 (0, 0))) (hne : some vb ≠ v.ownBlock) :
    Calls Try.prog 54 #[v, .int .i64 i, .slice (some ⟨vb, 0, none⟩) 1 1] w fun e w' =>
      ∃ v', e = .returned v' ∧ w'.ownsRow base 26 2 v' (l.length + 1) (dotCells (l.take i ++ d :: l.drop i)) ∧ w.grownBy w' v.ownBlock := by
  by_cases he : i = l.length
  · subst he
    have : l.take l.length ++ d :: l.drop l.length = l ++ [d] := by simp
    rw [this]
    obtain ⟨p, c, rfl⟩ : ∃ p c, v = .slice p l.length c := by
      rcases hrow.2 with ⟨rfl, h0⟩ | ⟨g, c, _, rfl, _⟩
      · exact ⟨none, 0, by rw [h0]⟩
      · exact ⟨_, c, rfl⟩
    exact dots_insert_end p l.length c vb base l d w rfl hm hrow hbase hv
  · obtain ⟨m, hm2⟩ : ∃ m, l.length = i + 1 + m := ⟨l.length - i - 1, by omega⟩
    rcases hrow.2 with ⟨rfl, h0⟩ | ⟨g, c, _, rfl, _⟩
    · omega
    · rw [hm2] at hrow ⊢
      by_cases hroom : i + 1 + m + 1 ≤ c
      · exact dots_insert_shift g i m c vb base l d w hm2 hrow hv (by intro e; subst e; exact hne rfl) hroom
      · exact dots_insert_grow g i m c vb base l d w hm2 (by omega) hrow hbase hv (by omega)

end Go.Proofs.Ytdgjjlffdfpkcaa
