/- The chapter's example holds. -/
import Derived.Test.YtmdeepdediafbaaTallyShare
namespace Go.Proofs.Ytmdeepdediafbaa
open Go.RowKit

section
variable {P : Program} {ops : Array Oper} {rest : List Oper} {a : Act} {w : World} {Q : Exit → Act → World → Prop} {dst : Option Tmp} {tp : TypeId} {ps : String} {af : Array Edge} {gd : Option (Nat × Bool)}
theorem load_mid_gd (ty : TypeId) (t : Tmp) (b o : Nat) (cs : List Value) (d : TypeDesc) (hw : Region.wanted { dst := dst, op := .load ty (.tmp t), type := tp, pos := ps, after := af, guard := gd } (yielded ops a.tmps) = true) (hx : a.eval (.tmp t) = .pointer (some ⟨b, o, none⟩)) (hc : w.rangeAt b o cs)
    (hu : P.underlying ty = some d) (hd : d.isRow = true) (hi : (P.info? ty).map (·.size) = some cs.length)
    (h : wpList P ops Q rest (a.put dst (.agg cs.toArray)) w) : wpList P ops Q ({ dst := dst, op := .load ty (.tmp t), type := tp, pos := ps, after := af, guard := gd } :: rest) a w := by
  rw [wpList, if_pos hw]
  exact .inl (wp_load_mid ty _ rfl b o hx cs d hc hu hd hi h)
end

/-- The example's events. -/
def exL : List Ev := [⟨0, 0, 0, 0, 0, 0, 0, ⟨#[]⟩, ⟨#[]⟩, 0, 0, 0⟩, ⟨0, 0, 0, 0, 0, 0, 0, ⟨#[]⟩, ⟨#[]⟩, 4, 0, 0⟩]

theorem ex_all : countAll exL 0 = 2 := by rw [count_all]; rfl
theorem ex_kind : countAll exL 1 = 2 := by have := count_kind exL 0 (by omega); rw [show 1 + 0 = 1 from rfl] at this; rw [this]; rfl
theorem ex_well : countAll exL 14 = 1 := by have := count_well exL 0 (by omega); rw [show 14 + 0 = 14 from rfl] at this; rw [this]; rfl
theorem ex_err : countAll exL 27 = 1 := by have := count_err exL 0 (by omega); rw [show 27 + 0 = 27 from rfl] at this; rw [this]; rfl

theorem ex_events (w : World) : Events (w.alloc (.cells #[.int .i64 0, .int .i64 0, .int .i64 0, .int .i64 0, .int .i64 0, .int .i64 0, .int .i64 0, .string ⟨#[]⟩, .string ⟨#[]⟩, .int .i64 0, .int .i64 0, .int .i64 0, .int .i64 0, .int .i64 0, .int .i64 0, .int .i64 0, .int .i64 0, .int .i64 0, .int .i64 0, .string ⟨#[]⟩, .string ⟨#[]⟩, .int .i64 4, .int .i64 0, .int .i64 0] 49)) (some ⟨w.heap.size, 0, none⟩) 2 exL := by
  refine ⟨rfl, by unfold maxLen; omega, ?_, .inr ⟨w.heap.size, 0, rfl, fun i hi j v hv => ?_⟩⟩
  · intro e he
    simp only [exL, List.mem_cons, List.not_mem_nil, or_false] at he
    rcases he with rfl | rfl <;> exact ⟨⟨by simp, by simp⟩, by simp, by simp, by simp⟩
  · rw [alloc_cell]
    have hj : j < 12 := by have := (List.getElem?_eq_some_iff.1 hv).1; rw [Ev.cells_length] at this; exact this
    have hi2 : i < 2 := hi
    have hi3 : i = 0 ∨ i = 1 := by omega
    rcases hi3 with rfl | rfl
    all_goals
      rw [← hv]
      have hj3 : j = 0 ∨ j = 1 ∨ j = 2 ∨ j = 3 ∨ j = 4 ∨ j = 5 ∨ j = 6 ∨ j = 7 ∨ j = 8 ∨ j = 9 ∨ j = 10 ∨ j = 11 := by omega
      rcases hj3 with rfl | rfl | rfl | rfl | rfl | rfl | rfl | rfl | rfl | rfl | rfl | rfl <;> rfl

theorem share_none (w : World) : Calls Try.prog 12 #[.agg ([.int .i64 0, .int .i64 0, .int .i64 0, .int .i64 0, .int .i64 0, .int .i64 0, .int .i64 0, .int .i64 0, .int .i64 0, .int .i64 0, .int .i64 0, .int .i64 0, .int .i64 0, .int .i64 0, .int .i64 0, .int .i64 0, .int .i64 0, .int .i64 0, .int .i64 0, .int .i64 0, .int .i64 0, .int .i64 0, .int .i64 0, .int .i64 0, .int .i64 0, .int .i64 0, .int .i64 0, .int .i64 0, .int .i64 0, .int .i64 0, .int .i64 0, .int .i64 0, .int .i64 0, .int .i64 0, .int .i64 0, .int .i64 0, .int .i64 0, .int .i64 0, .int .i64 0, .int .i64 0, .int .i64 0, .int .i64 0, .int .i64 0, .int .i64 0, .slice none 0 0] : List Value).toArray] w fun e w' => e = .returned (.int .i64 100) ∧ Ext w w' :=
  tally_share (fun _ => 0) (.slice none 0 0) w (by simp) (by simp)

set_option maxRecDepth 100000 in
set_option maxHeartbeats 4000000 in
theorem tally_awake (w : World) : Calls Try.prog 7 #[] w fun e w' => e = .returned (.bool true) ∧ Ext w w' := by
  have hE := ex_events w
  have hE1 : Ext w (w.alloc (.cells #[.int .i64 0, .int .i64 0, .int .i64 0, .int .i64 0, .int .i64 0, .int .i64 0, .int .i64 0, .string ⟨#[]⟩, .string ⟨#[]⟩, .int .i64 0, .int .i64 0, .int .i64 0, .int .i64 0, .int .i64 0, .int .i64 0, .int .i64 0, .int .i64 0, .int .i64 0, .int .i64 0, .string ⟨#[]⟩, .string ⟨#[]⟩, .int .i64 4, .int .i64 0, .int .i64 0] 49)) := (Ext.refl w).alloc _
  go_enter Try.func7, Try.ntmps7
  go_wp2_with fail
  refine (tally_of _ 2 2 exL _ (by omega) hE).mono ?_
  rintro e w2 ⟨g, rfl, hd, g2⟩
  have hE2 := hE1.trans g2
  clear hE hE1 g2
  have hsz : (tallyCells (countAll exL) g).toArray.size = 45 := by rw [List.size_toArray, tallyCells_length]
  have hi : (Try.prog.info? 28).map (·.size) = some (tallyCells (countAll exL) g).toArray.size := by rw [hsz]; exact info_tally
  have h1 := all_oneCell_toArray (tallyCells_one (x := countAll exL) hd)
  have hth : ∀ C : Array Value, C.size = 45 → (w2.alloc (.cells C 28)).there w2.heap.size 0 (tallyCells (countAll exL) g).toArray.size := fun C hC => by rw [hsz, ← hC]; exact there_new _ _ _
  have hsame : ∀ C : Array Value, C.size = 45 → ((w2.alloc (.cells C 28)).setCells w2.heap.size 0 (tallyCells (countAll exL) g)).rangeAt w2.heap.size 0 (tallyCells (countAll exL) g) := fun C hC => World.rangeAt_setCells_same _ _ _ _ (hth C hC)
  have hExt : ∀ C : Array Value, Ext w2 ((w2.alloc (.cells C 28)).setCells w2.heap.size 0 (tallyCells (countAll exL) g)) := fun C => Ext.setCells _ (Nat.le_refl _) _ _ _ ((Ext.refl _).alloc _)
  go_upto_region 2 with (first | ((with_reducible refine store_mid_at 28 1 5 w2.heap.size 0 (tallyCells (countAll exL) g).toArray ?_ ?_ ?_ hi h1 ?_); rfl; rfl; exact hth _ rfl; skip))
  generalize hL : ([.int .i64 0, .int .i64 0, .int .i64 0, .int .i64 0, .int .i64 0, .int .i64 0, .int .i64 0, .int .i64 0, .int .i64 0, .int .i64 0, .int .i64 0, .int .i64 0, .int .i64 0, .int .i64 0, .int .i64 0, .int .i64 0, .int .i64 0, .int .i64 0, .int .i64 0, .int .i64 0, .int .i64 0, .int .i64 0, .int .i64 0, .int .i64 0, .int .i64 0, .int .i64 0, .int .i64 0, .int .i64 0, .int .i64 0, .int .i64 0, .int .i64 0, .int .i64 0, .int .i64 0, .int .i64 0, .int .i64 0, .int .i64 0, .int .i64 0, .int .i64 0, .int .i64 0, .int .i64 0, .int .i64 0, .int .i64 0, .int .i64 0, .int .i64 0, .slice none 0 0] : List Value) = L
  have hLs : L.toArray.size = 45 := by rw [← hL]; rfl
  have hr := hsame L.toArray hLs
  have hx := hE2.trans (hExt L.toArray)
  clear hsame hExt hth hLs hL hE2
  generalize (w2.alloc (.cells L.toArray 28)).setCells w2.heap.size 0 (tallyCells (countAll exL) g) = w3 at *
  have c0 : w3.cell? ⟨w2.heap.size, 0, none⟩ = some (.int .i64 2) := by have := hr 0 _ (tallyCells_num _ g 0 (by omega)); rw [ex_all, Nat.zero_add] at this; exact this
  have c1 : w3.cell? ⟨w2.heap.size, 1, none⟩ = some (.int .i64 2) := by have := hr 1 _ (tallyCells_num _ g 1 (by omega)); rw [ex_kind, Nat.zero_add] at this; exact this
  have c14 : w3.cell? ⟨w2.heap.size, 14, none⟩ = some (.int .i64 1) := by have := hr 14 _ (tallyCells_num _ g 14 (by omega)); rw [ex_well, Nat.zero_add] at this; exact this
  have hS : ∀ wx, Calls Try.prog 12 #[.agg (tallyCells (countAll exL) g).toArray] wx fun e w' => e = .returned (.int .i64 50) ∧ Ext wx w' := fun wx => by
    have := tally_share (countAll exL) g wx (by rw [ex_all]; omega) (by rw [ex_err]; omega)
    rw [ex_all, ex_err] at this
    exact this
  have HS := Lib.hid hS
  have hi2 : (Try.prog.info? 28).map (·.size) = some (tallyCells (countAll exL) g).length := hi
  have HR := Lib.hid hr
  have HI := Lib.hid hi2
  clear hS hi hi2 hsz h1 hd hr
  generalize tallyCells (countAll exL) g = X at *
  go_wp2_with (first | ((with_reducible refine load_mid_gd 28 1 w2.heap.size 0 X _ ?_ ?_ HR.out Try.underlying28 ?_ HI.out ?_); rfl; rfl; rfl; skip))
  refine (HS.out _).mono ?_
  rintro e w4 ⟨rfl, g4⟩
  have d0 := g4.cell c0
  have d1 := g4.cell c1
  have d14 := g4.cell c14
  clear c0 c1 c14
  go_wp2_with fail
  refine (share_none _).mono ?_
  rintro e w5 ⟨rfl, g5⟩
  go_wp2
  go_ret
  exact ⟨rfl, hx.trans (g4.trans g5)⟩

end Go.Proofs.Ytmdeepdediafbaa
