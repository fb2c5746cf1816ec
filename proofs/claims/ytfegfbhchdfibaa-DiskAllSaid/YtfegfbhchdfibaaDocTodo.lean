/- The document's pending steps grow by one. PRINTED BY mk_doctodo.py. -/
import Derived.Test.YtfegfbhchdfibaaDocSteps
import Derived.Test.YtfegfbhchdfibaaSafeRound
import Derived.Deep.RegionLaw
import Derived.Deep.RegionHeld3
import Derived.Deep.Upon
namespace Go.Proofs.Ytfegfbhchdfibaa
open Go.RowKit
attribute [local go_sem] Oper.semAt_some

theorem row_zero (w : World) (t : TypeId) (k H base : Nat) (hH : w.heap.size = H) (hb : base ≤ H) : (w.alloc (.cells #[] t)).ownsRow base t k (.slice (some ⟨H, 0, none⟩) 0 0) 0 [] := by
  subst hH
  exact ⟨by simp, .inr ⟨_, 0, #[], rfl, hb, heap_alloc_new _ _, Nat.le_refl _, by unfold maxLen; omega, by simp, by simp⟩⟩
theorem news_new (w : World) (cs : Array Value) (t : TypeId) (C : Nat) (hC : w.heap.size = C) : ∀ j u, cs.toList[j]? = some u → (w.alloc (.cells cs t)).cell? ((⟨C, 0, none⟩ : Addr).add j) = some u := by
  subst hC
  exact World.news_of_block (heap_alloc_new w _)
/-- append(empty, l...): at a step of a region that draws. -/
theorem step_todo1 {w : World} {ops : Array Oper} {o : Oper} {a : Act} {K : Act → World → Prop} {Q : Exit → Act → World → Prop} {E : Prop} (hgd : o.guard = none) (s x : Operand)
    (ho : o.op = .call { callee := .builtin .append, args := #[s, x], argTypes := #[42, 42] }) (H base : Nat) (hs : a.eval s = .slice (some ⟨H, 0, none⟩) 0 0) (hown : w.ownsRow base 75 5 (.slice (some ⟨H, 0, none⟩) 0 0) 0 [])
    (p : Option Addr) (m c : Nat) (T : List RStep) (hx : a.eval x = .slice p m c) (hT : StsV w (.slice p m c) T) (hm : T.length = m) (hbase : base ≤ w.heap.size)
    (h : ∀ g cap w', w'.ownsRow base 75 5 (.slice (some ⟨g, 0, none⟩) m cap) m (sCells T) → w.grownBy w' (some H) → (g = H ∨ g = w.heap.size) → K (a.put o.dst (.slice (some ⟨g, 0, none⟩) m cap)) w') :
    if Region.wanted o (yielded ops a.tmps) = true then Oper.wp Try.prog o a w K Q else E := by
  obtain ⟨i0, hi, hz0, hz1, hz2⟩ := info_parts info_rstep
  obtain ⟨p', c', he, hl, h0⟩ := hT
  rw [hm] at he hl h0
  injection he with e1 e2 e3
  subst e1 e3
  by_cases hm0 : m = 0
  · subst hm0
    obtain rfl := List.length_eq_zero_iff.1 hm
    have hw : Region.wanted o (yielded ops a.tmps) = true := by simp [Region.wanted, hgd]
    rw [if_pos hw]
    have hr : (Builtin.append_ #[42, 42] o.type #[.slice (some ⟨H, 0, none⟩) 0 0, .slice p 0 c]).run Try.prog w = .ok (.slice (some ⟨H, 0, none⟩) 0 0) w := by
      refine run_append_nothing w _ _ o.type _ i0 Try.underlying42 hi (some ⟨H, 0, none⟩) 0 0 (Nat.le_refl _) _ ?_
      exact ⟨.inl ⟨_, Try.underlying42⟩, fun w' => by simp [Builtin.lenOf], by cases p <;> simp [Builtin.firstCells, loadCells, loadCellsFrom], by cases p <;> simp [Builtin.firstCells, loadCells, loadCellsFrom], by simp, by simp⟩
    unfold Oper.wp execOp
    simp only [ho, resolve, invoke, builtin, Sem.run_bind, Sem.run_pure, Result.andThen_ok, List.map_toArray, List.map_cons, List.map_nil, hs, hx, hr]
    exact h H 0 w hown (World.grownBy.refl w _) (.inl rfl)
  · rcases h0 with h0 | ⟨b, off, rfl, hst⟩
    · exact absurd h0 hm0
    · subst hm
      refine step_append_lies w hgd s x 42 ho base 75 i0 (.agg #[.int .i64 0, .string ByteArray.empty, .string ByteArray.empty, .int .i64 0, .string ByteArray.empty]) 5 64 Try.underlying42 hi hz0 hz1 hz2 (by kernel_rfl) (by decide) (.slice (some ⟨H, 0, none⟩) 0 0) 0 [] hs hown ⟨b, off, none⟩ T.length c (sCells T) hx (sCells_length T) (sts_news hst) (sCells_one T) (by omega) (by unfold maxLen; omega) (by omega) hbase _ rfl ?_
      intro g cap w' h1 h2 h3 _
      rw [Nat.zero_add, List.nil_append] at h1
      rw [Nat.zero_add]
      refine h g cap w' h1 h2 (h3.imp (fun e => ?_) id)
      exact (by simpa [Value.ownBlock] using e : H = g).symm
/-- append(l, y). -/
theorem step_todo2 {w : World} {ops : Array Oper} {o : Oper} {a : Act} {K : Act → World → Prop} {Q : Exit → Act → World → Prop} {E : Prop} (hgd : o.guard = none) (s x : Operand)
    (ho : o.op = .call { callee := .builtin .append, args := #[s, x], argTypes := #[42, 42] }) (g0 m cap0 base C : Nat) (hs : a.eval s = .slice (some ⟨g0, 0, none⟩) m cap0) (T : List RStep) (hown : w.ownsRow base 75 5 (.slice (some ⟨g0, 0, none⟩) m cap0) m (sCells T))
    (y : RStep) (hx : a.eval x = .slice (some ⟨C, 0, none⟩) 1 1) (hnews : ∀ j u, (rsCells y).toList[j]? = some u → w.cell? ((⟨C, 0, none⟩ : Addr).add j) = some u) (hm : m ≤ 1000000) (hbase : base ≤ w.heap.size)
    (h : ∀ g cap w', w'.ownsRow base 75 5 (.slice (some ⟨g, 0, none⟩) (m + 1) cap) (m + 1) (sCells (T ++ [y])) → w.grownBy w' (some g0) → base ≤ g → K (a.put o.dst (.slice (some ⟨g, 0, none⟩) (m + 1) cap)) w') :
    if Region.wanted o (yielded ops a.tmps) = true then Oper.wp Try.prog o a w K Q else E := by
  obtain ⟨i0, hi, hz0, hz1, hz2⟩ := info_parts info_rstep
  refine step_append_lies w hgd s x 42 ho base 75 i0 (.agg #[.int .i64 0, .string ByteArray.empty, .string ByteArray.empty, .int .i64 0, .string ByteArray.empty]) 5 64 Try.underlying42 hi hz0 hz1 hz2 (by kernel_rfl) (by decide) (.slice (some ⟨g0, 0, none⟩) m cap0) m (sCells T) hs hown ⟨C, 0, none⟩ 1 1 (rsCells y).toList hx rfl hnews (fun u hu => sCells_one [y] u (by unfold sCells; simpa using hu)) (by omega) (by unfold maxLen; omega) (by omega) hbase _ rfl ?_
  intro g cap w' h1 h2 h3 _
  have e : sCells (T ++ [y]) = sCells T ++ (rsCells y).toList := by rw [sCells_app]; unfold sCells; simp
  rw [← e] at h1
  refine h g cap w' h1 h2 ?_
  rcases h1.2 with ⟨e, _⟩ | ⟨g', _, _, e, hb, _⟩
  · cases e
  · injection e with e; injection e with e; injection e with e; omega

/-- What is left when the pending steps have grown. -/
structure Todo (wr W : World) (X : Nat) (c0 c1 c2 v c4 c5 : Value) (T : List RStep) : Prop where
  cells : W.heap[X]? = some (.cells #[c0, c1, c2, v, c4, c5] 44 (0, 0))
  rest : wr.grownBy W (some X)
  todo : StsV W v T
  new : New wr v
theorem todo_end {wr w6 : World} {X g n cap : Nat} {c0 c1 c2 c3 c4 c5 : Value} {T : List RStep} (h : w6.ownsRow wr.heap.size 75 5 (.slice (some ⟨g, 0, none⟩) n cap) n (sCells T)) (hn : T.length = n) (hl : n ≤ 1000000) (he : Ext wr w6) (hg : wr.heap.size ≤ g)
    (hX : wr.heap[X]? = some (.cells #[c0, c1, c2, c3, c4, c5] 44 (0, 0))) : Todo wr (w6.setCell ⟨X, 3, none⟩ (.slice (some ⟨g, 0, none⟩) n cap)) X c0 c1 c2 (.slice (some ⟨g, 0, none⟩) n cap) c4 c5 T := by
  have hlt : X < wr.heap.size := (Array.getElem?_eq_some_iff.1 hX).1
  have gs := grown_setCell w6 X 3 (.slice (some ⟨g, 0, none⟩) n cap)
  refine ⟨?_, ?_, row_steps (row_grown h gs ?_) hn hl, ?_⟩
  · have := (he.block hlt).trans hX
    unfold World.setCell
    rw [Array.getElem?_modify, if_pos rfl, this]
    rfl
  · exact ⟨he.os, he.tape, he.output, by have := gs.size; have := he.size; omega, fun k hk hne => (gs.block k (by have := he.size; omega) hne).trans (he.block hk)⟩
  · intro e
    have : g = X := by simpa [Value.ownBlock] using e
    omega
  · intro b hb
    have : g = b := by simpa [Value.ownBlock] using hb
    omega
theorem far_ext {wr w w5 : World} {H : Nat} (he : Ext wr w) (hg : w.grownBy w5 (some H)) (hH : wr.heap.size ≤ H) : Ext wr w5 := ext_grownBy he hg hH
theorem cells_far {w w5 : World} {H C : Nat} {l : List Value} (h : ∀ j u, l[j]? = some u → w.cell? ((⟨C, 0, none⟩ : Addr).add j) = some u) (hg : w.grownBy w5 (some H)) (hne : C ≠ H) : ∀ j u, l[j]? = some u → w5.cell? ((⟨C, 0, none⟩ : Addr).add j) = some u := fun j u hj => by
  have h1 := h j u hj
  rw [add_none] at h1 ⊢
  exact (World.cell?_of_block (a := ⟨C, 0 + j, none⟩) (hg.block C (lt_of_cell h1) (by intro e; injection e with e; omega))).trans h1

set_option maxRecDepth 100000 in
set_option maxHeartbeats 4000000 in
theorem do_todo {wr : World} (X Y m c3 : Nat) (p3 : Option Addr) (c0 c1 c2 c4 c5 : Value) (kd at' : Int) (nm tt s : ByteArray) (T : List RStep) (hX : wr.heap[X]? = some (.cells #[c0, c1, c2, .slice p3 m c3, c4, c5] 44 (0, 0))) (hY : wr.heap[Y]? = some (.cells #[.int .i64 kd, .string nm, .string tt, .int .i64 at', .string s] 75 (0, 0)))
    (HT : Hid (StsV wr (.slice p3 m c3) T)) (HM : Hid (T.length = m)) (hm : m ≤ 900000) (hne : X ≠ Y)
    (Q : Exit → Act → World → Prop) (u0 u1 u4 u5 u6 u7 u8 u9 u10 u11 u12 u13 u14 u15 u16 u17 u18 u19 u20 u21 u22 u23 u24 u25 u26 u27 u28 u29 u30 u31 u32 : Value)
    (hQ : Hid (∀ (W : World) (p' : Option Addr) (c' : Nat) (v14 v15 v16 v17 v18 v19 v20 v21 : Value), Todo wr W X c0 c1 c2 (.slice p' (m + 1) c') c4 c5 (T ++ [⟨kd, nm, tt, at', s⟩]) → Q .normal { tmps := (u0 :: u1 :: .pointer (some ⟨X, 0, none⟩) :: .pointer (some ⟨Y, 0, none⟩) :: u4 :: u5 :: u6 :: u7 :: u8 :: u9 :: u10 :: u11 :: u12 :: u13 :: v14 :: v15 :: v16 :: v17 :: v18 :: v19 :: v20 :: v21 :: u22 :: u23 :: u24 :: u25 :: u26 :: u27 :: u28 :: u29 :: u30 :: u31 :: u32 :: ([] : List Value)).toArray, defers := [] } W))
    (c : Code) (hc : (Try.f38.body.bind (regionOf 4)) = some c) :
    c.wp Try.prog Q { tmps := (u0 :: u1 :: .pointer (some ⟨X, 0, none⟩) :: .pointer (some ⟨Y, 0, none⟩) :: u4 :: u5 :: u6 :: u7 :: u8 :: u9 :: u10 :: u11 :: u12 :: u13 :: u14 :: u15 :: u16 :: u17 :: u18 :: u19 :: u20 :: u21 :: u22 :: u23 :: u24 :: u25 :: u26 :: u27 :: u28 :: u29 :: u30 :: u31 :: u32 :: ([] : List Value)).toArray, defers := [] } wr := by
  simp [Try.f38, regionOf] at hc
  subst hc
  have hlX : X < wr.heap.size := (Array.getElem?_eq_some_iff.1 hX).1
  have hlY : Y < wr.heap.size := (Array.getElem?_eq_some_iff.1 hY).1
  have HF : Hid ((∀ W, Ext wr W → W.cell? ⟨Y, 0, none⟩ = some (.int .i64 kd) ∧ W.cell? ⟨Y, 1, none⟩ = some (.string nm) ∧ W.cell? ⟨Y, 2, none⟩ = some (.string tt) ∧ W.cell? ⟨Y, 3, none⟩ = some (.int .i64 at') ∧ W.cell? ⟨Y, 4, none⟩ = some (.string s)) ∧
      ∀ W, Ext wr W → W.cell? ⟨X, 3, none⟩ = some (.slice p3 m c3) ∧ W.frozen? ⟨X, 3, none⟩ = false) := Lib.hid ⟨fun W he => by
      have h := (he.block hlY).trans hY
      exact ⟨(cell_row h).1, (cell_row h).1, (cell_row h).1, (cell_row h).1, (cell_row h).1⟩, fun W he => by
      have h := (he.block hlX).trans hX
      exact cell_row h⟩
  have HXW := Lib.hid hX
  have hne' : Y ≠ X := fun e => hne e.symm
  obtain ⟨z0, z1, z2, z3, z4⟩ := HF.out.1 wr (Ext.refl _)
  have x3a := (HF.out.2 wr (Ext.refl _)).1
  have x3b := (HF.out.2 (wr.alloc (.cells #[] 75)) ((Ext.refl _).alloc _)).1
  have x3c := (HF.out.2 (wr.alloc (.cells #[.int .i64 kd, .string nm, .string tt, .int .i64 at', .string s] 75)) ((Ext.refl _).alloc _)).1
  have x3d := (HF.out.2 ((wr.alloc (.cells #[] 75)).alloc (.cells #[.int .i64 kd, .string nm, .string tt, .int .i64 at', .string s] 75)) (((Ext.refl _).alloc _).alloc _)).1
  have x3e := (HF.out.2 ((wr.alloc (.cells #[.int .i64 kd, .string nm, .string tt, .int .i64 at', .string s] 75)).alloc (.cells #[] 75)) (((Ext.refl _).alloc _).alloc _)).1
  obtain ⟨y0, y1, y2, y3, y4⟩ := HF.out.1 (wr.alloc (.cells #[] 75)) ((Ext.refl _).alloc _)
  have tok0 : True := trivial
  clear hX hY
  refine wp_region_noPanic ?_
  go_region_law (first
    | (have _t := tok0; refine step_todo1 (by rfl) (.tmp 14) (.tmp 16) (by rfl) (wr.heap.size + 1) wr.heap.size (by rfl) (row_to (row_zero (wr.alloc (.cells #[.int .i64 kd, .string nm, .string tt, .int .i64 at', .string s] 75)) 75 5 _ wr.heap.size (World.size_alloc _ _) (by omega)) (by first | exact Ext.refl _ | exact (Ext.refl _).drew | exact (Ext.refl _).alloc _ | exact ((Ext.refl _).alloc _).drew | exact ((Ext.refl _).alloc _).alloc _ | exact (((Ext.refl _).alloc _).alloc _).drew)) p3 m c3 T (by rfl) (HT.out.ext (by first | exact Ext.refl _ | exact (Ext.refl _).drew | exact (Ext.refl _).alloc _ | exact ((Ext.refl _).alloc _).drew | exact ((Ext.refl _).alloc _).alloc _ | exact (((Ext.refl _).alloc _).alloc _).drew)) HM.out (Ext.size (by first | exact Ext.refl _ | exact (Ext.refl _).drew | exact (Ext.refl _).alloc _ | exact ((Ext.refl _).alloc _).drew | exact ((Ext.refl _).alloc _).alloc _ | exact (((Ext.refl _).alloc _).alloc _).drew)) ?_; intro g cap w5 hown hgrow hg5; have HC := Lib.hid (cells_far (C := wr.heap.size) (l := (rsCells ⟨kd, nm, tt, at', s⟩).toList) (new_ext (by first | exact Ext.refl _ | exact (Ext.refl _).drew | exact (Ext.refl _).alloc _ | exact ((Ext.refl _).alloc _).drew | exact ((Ext.refl _).alloc _).alloc _ | exact (((Ext.refl _).alloc _).alloc _).drew) (news_new wr #[.int .i64 kd, .string nm, .string tt, .int .i64 at', .string s] 75 _ rfl)) hgrow (by omega)); have HE5 := Lib.hid (far_ext (wr := wr) (by first | exact Ext.refl _ | exact (Ext.refl _).drew | exact (Ext.refl _).alloc _ | exact ((Ext.refl _).alloc _).drew | exact ((Ext.refl _).alloc _).alloc _ | exact (((Ext.refl _).alloc _).alloc _).drew) hgrow (by omega)); have HO5 := Lib.hid hown; have HG5 : Hid (wr.heap.size ≤ g) := Lib.hid (by rcases hg5 with h | h; (· omega); (· have h2 := Ext.size ((by first | exact Ext.refl _ | exact (Ext.refl _).drew | exact (Ext.refl _).alloc _ | exact ((Ext.refl _).alloc _).drew | exact ((Ext.refl _).alloc _).alloc _ | exact (((Ext.refl _).alloc _).alloc _).drew) : Ext wr _); have h3 := h.trans rfl; rw [h]; exact Ext.size (by first | exact Ext.refl _ | exact (Ext.refl _).drew | exact (Ext.refl _).alloc _ | exact ((Ext.refl _).alloc _).drew | exact ((Ext.refl _).alloc _).alloc _ | exact (((Ext.refl _).alloc _).alloc _).drew))); have Z0 := HF.out.1 w5 HE5.out; obtain ⟨z0, z1, z2, z3, z4⟩ := Z0; clear tok0; have tokC : True := trivial; clear hown hgrow hg5)
    | (have _t := tok0; refine step_todo1 (by rfl) (.tmp 14) (.tmp 16) (by rfl) wr.heap.size wr.heap.size (by rfl) (row_to (row_zero wr 75 5 _ wr.heap.size rfl (by omega)) (by first | exact Ext.refl _ | exact (Ext.refl _).drew | exact (Ext.refl _).alloc _ | exact ((Ext.refl _).alloc _).drew | exact ((Ext.refl _).alloc _).alloc _ | exact (((Ext.refl _).alloc _).alloc _).drew)) p3 m c3 T (by rfl) (HT.out.ext (by first | exact Ext.refl _ | exact (Ext.refl _).drew | exact (Ext.refl _).alloc _ | exact ((Ext.refl _).alloc _).drew | exact ((Ext.refl _).alloc _).alloc _ | exact (((Ext.refl _).alloc _).alloc _).drew)) HM.out (Ext.size (by first | exact Ext.refl _ | exact (Ext.refl _).drew | exact (Ext.refl _).alloc _ | exact ((Ext.refl _).alloc _).drew | exact ((Ext.refl _).alloc _).alloc _ | exact (((Ext.refl _).alloc _).alloc _).drew)) ?_; intro g cap w5 hown hgrow hg5; have HC := Lib.hid (cells_far (C := wr.heap.size + 1) (l := (rsCells ⟨kd, nm, tt, at', s⟩).toList) (new_ext (by first | exact Ext.refl _ | exact (Ext.refl _).drew | exact (Ext.refl _).alloc _ | exact ((Ext.refl _).alloc _).drew | exact ((Ext.refl _).alloc _).alloc _ | exact (((Ext.refl _).alloc _).alloc _).drew) (news_new (wr.alloc (.cells #[] 75)) #[.int .i64 kd, .string nm, .string tt, .int .i64 at', .string s] 75 _ (World.size_alloc _ _))) hgrow (by omega)); have HE5 := Lib.hid (far_ext (wr := wr) (by first | exact Ext.refl _ | exact (Ext.refl _).drew | exact (Ext.refl _).alloc _ | exact ((Ext.refl _).alloc _).drew | exact ((Ext.refl _).alloc _).alloc _ | exact (((Ext.refl _).alloc _).alloc _).drew) hgrow (by omega)); have HO5 := Lib.hid hown; have HG5 : Hid (wr.heap.size ≤ g) := Lib.hid (by rcases hg5 with h | h; (· omega); (· have h2 := Ext.size ((by first | exact Ext.refl _ | exact (Ext.refl _).drew | exact (Ext.refl _).alloc _ | exact ((Ext.refl _).alloc _).drew | exact ((Ext.refl _).alloc _).alloc _ | exact (((Ext.refl _).alloc _).alloc _).drew) : Ext wr _); have h3 := h.trans rfl; rw [h]; exact Ext.size (by first | exact Ext.refl _ | exact (Ext.refl _).drew | exact (Ext.refl _).alloc _ | exact ((Ext.refl _).alloc _).drew | exact ((Ext.refl _).alloc _).alloc _ | exact (((Ext.refl _).alloc _).alloc _).drew))); have Z0 := HF.out.1 w5 HE5.out; obtain ⟨z0, z1, z2, z3, z4⟩ := Z0; clear tok0; have tokC : True := trivial; clear hown hgrow hg5)
    | (have _t := tok0; refine step_todo1 (by rfl) (.tmp 14) (.tmp 16) (by rfl) wr.heap.size wr.heap.size (by rfl) (row_to (row_zero wr 75 5 _ wr.heap.size rfl (by omega)) (by first | exact Ext.refl _ | exact (Ext.refl _).drew | exact (Ext.refl _).alloc _ | exact ((Ext.refl _).alloc _).drew | exact ((Ext.refl _).alloc _).alloc _ | exact (((Ext.refl _).alloc _).alloc _).drew)) p3 m c3 T (by rfl) (HT.out.ext (by first | exact Ext.refl _ | exact (Ext.refl _).drew | exact (Ext.refl _).alloc _ | exact ((Ext.refl _).alloc _).drew | exact ((Ext.refl _).alloc _).alloc _ | exact (((Ext.refl _).alloc _).alloc _).drew)) HM.out (Ext.size (by first | exact Ext.refl _ | exact (Ext.refl _).drew | exact (Ext.refl _).alloc _ | exact ((Ext.refl _).alloc _).drew | exact ((Ext.refl _).alloc _).alloc _ | exact (((Ext.refl _).alloc _).alloc _).drew)) ?_; intro g cap w5 hown hgrow hg5;  have HE5 := Lib.hid (far_ext (wr := wr) (by first | exact Ext.refl _ | exact (Ext.refl _).drew | exact (Ext.refl _).alloc _ | exact ((Ext.refl _).alloc _).drew | exact ((Ext.refl _).alloc _).alloc _ | exact (((Ext.refl _).alloc _).alloc _).drew) hgrow (by omega)); have HO5 := Lib.hid hown; have HG5 : Hid (wr.heap.size ≤ g) := Lib.hid (by rcases hg5 with h | h; (· omega); (· have h2 := Ext.size ((by first | exact Ext.refl _ | exact (Ext.refl _).drew | exact (Ext.refl _).alloc _ | exact ((Ext.refl _).alloc _).drew | exact ((Ext.refl _).alloc _).alloc _ | exact (((Ext.refl _).alloc _).alloc _).drew) : Ext wr _); have h3 := h.trans rfl; rw [h]; exact Ext.size (by first | exact Ext.refl _ | exact (Ext.refl _).drew | exact (Ext.refl _).alloc _ | exact ((Ext.refl _).alloc _).drew | exact ((Ext.refl _).alloc _).alloc _ | exact (((Ext.refl _).alloc _).alloc _).drew))); have Z0 := HF.out.1 w5 HE5.out; obtain ⟨z0, z1, z2, z3, z4⟩ := Z0; clear tok0; have tokA : True := trivial; clear hown hgrow hg5)
    | (have _t := tokA; refine step_todo2 (by rfl) (.tmp 17) (.tmp 19) (by rfl) _ m _ wr.heap.size w5.heap.size (by rfl) T (row_to HO5.out (by first | exact Ext.refl _ | exact (Ext.refl _).drew | exact (Ext.refl _).alloc _ | exact ((Ext.refl _).alloc _).drew | exact ((Ext.refl _).alloc _).alloc _ | exact (((Ext.refl _).alloc _).alloc _).drew)) ⟨kd, nm, tt, at', s⟩ (by rfl) (new_ext (by first | exact Ext.refl _ | exact (Ext.refl _).drew | exact (Ext.refl _).alloc _ | exact ((Ext.refl _).alloc _).drew | exact ((Ext.refl _).alloc _).alloc _ | exact (((Ext.refl _).alloc _).alloc _).drew) (news_new w5 #[.int .i64 kd, .string nm, .string tt, .int .i64 at', .string s] 75 _ rfl)) (by omega) (Ext.size (HE5.out.trans (by first | exact Ext.refl _ | exact (Ext.refl _).drew | exact (Ext.refl _).alloc _ | exact ((Ext.refl _).alloc _).drew | exact ((Ext.refl _).alloc _).alloc _ | exact (((Ext.refl _).alloc _).alloc _).drew))) ?_; intro g2 cap2 w6 hown hgrow hg6; have HE6 := Lib.hid (far_ext (wr := wr) (HE5.out.trans (by first | exact Ext.refl _ | exact (Ext.refl _).drew | exact (Ext.refl _).alloc _ | exact ((Ext.refl _).alloc _).drew | exact ((Ext.refl _).alloc _).alloc _ | exact (((Ext.refl _).alloc _).alloc _).drew)) hgrow HG5.out); have HO6 := Lib.hid hown; have HG6 := Lib.hid hg6; clear z0 z1 z2 z3 z4; have Z0 := HF.out.1 w6 HE6.out; obtain ⟨z0, z1, z2, z3, z4⟩ := Z0; have x3 := (HF.out.2 w6 HE6.out).1; have xf := (HF.out.2 w6 HE6.out).2; clear tokA; clear hown hgrow hg6)
    | (have _t := tokC; refine step_todo2 (by rfl) (.tmp 17) (.tmp 19) (by rfl) _ m _ wr.heap.size wr.heap.size (by rfl) T (row_to HO5.out (by first | exact Ext.refl _ | exact (Ext.refl _).drew | exact (Ext.refl _).alloc _ | exact ((Ext.refl _).alloc _).drew | exact ((Ext.refl _).alloc _).alloc _ | exact (((Ext.refl _).alloc _).alloc _).drew)) ⟨kd, nm, tt, at', s⟩ (by rfl) (new_ext (by first | exact Ext.refl _ | exact (Ext.refl _).drew | exact (Ext.refl _).alloc _ | exact ((Ext.refl _).alloc _).drew | exact ((Ext.refl _).alloc _).alloc _ | exact (((Ext.refl _).alloc _).alloc _).drew) HC.out) (by omega) (Ext.size (HE5.out.trans (by first | exact Ext.refl _ | exact (Ext.refl _).drew | exact (Ext.refl _).alloc _ | exact ((Ext.refl _).alloc _).drew | exact ((Ext.refl _).alloc _).alloc _ | exact (((Ext.refl _).alloc _).alloc _).drew))) ?_; intro g2 cap2 w6 hown hgrow hg6; have HE6 := Lib.hid (far_ext (wr := wr) (HE5.out.trans (by first | exact Ext.refl _ | exact (Ext.refl _).drew | exact (Ext.refl _).alloc _ | exact ((Ext.refl _).alloc _).drew | exact ((Ext.refl _).alloc _).alloc _ | exact (((Ext.refl _).alloc _).alloc _).drew)) hgrow HG5.out); have HO6 := Lib.hid hown; have HG6 := Lib.hid hg6; clear z0 z1 z2 z3 z4; have Z0 := HF.out.1 w6 HE6.out; obtain ⟨z0, z1, z2, z3, z4⟩ := Z0; have x3 := (HF.out.2 w6 HE6.out).1; have xf := (HF.out.2 w6 HE6.out).2; clear tokC; clear hown hgrow hg6)
    | (have _t := tokC; refine step_todo2 (by rfl) (.tmp 17) (.tmp 19) (by rfl) _ m _ wr.heap.size (wr.heap.size + 1) (by rfl) T (row_to HO5.out (by first | exact Ext.refl _ | exact (Ext.refl _).drew | exact (Ext.refl _).alloc _ | exact ((Ext.refl _).alloc _).drew | exact ((Ext.refl _).alloc _).alloc _ | exact (((Ext.refl _).alloc _).alloc _).drew)) ⟨kd, nm, tt, at', s⟩ (by rfl) (new_ext (by first | exact Ext.refl _ | exact (Ext.refl _).drew | exact (Ext.refl _).alloc _ | exact ((Ext.refl _).alloc _).drew | exact ((Ext.refl _).alloc _).alloc _ | exact (((Ext.refl _).alloc _).alloc _).drew) HC.out) (by omega) (Ext.size (HE5.out.trans (by first | exact Ext.refl _ | exact (Ext.refl _).drew | exact (Ext.refl _).alloc _ | exact ((Ext.refl _).alloc _).drew | exact ((Ext.refl _).alloc _).alloc _ | exact (((Ext.refl _).alloc _).alloc _).drew))) ?_; intro g2 cap2 w6 hown hgrow hg6; have HE6 := Lib.hid (far_ext (wr := wr) (HE5.out.trans (by first | exact Ext.refl _ | exact (Ext.refl _).drew | exact (Ext.refl _).alloc _ | exact ((Ext.refl _).alloc _).drew | exact ((Ext.refl _).alloc _).alloc _ | exact (((Ext.refl _).alloc _).alloc _).drew)) hgrow HG5.out); have HO6 := Lib.hid hown; have HG6 := Lib.hid hg6; clear z0 z1 z2 z3 z4; have Z0 := HF.out.1 w6 HE6.out; obtain ⟨z0, z1, z2, z3, z4⟩ := Z0; have x3 := (HF.out.2 w6 HE6.out).1; have xf := (HF.out.2 w6 HE6.out).2; clear tokC; clear hown hgrow hg6))
  all_goals
    refine NoPanic.normal ?_
    exact hQ.out _ _ _ _ _ _ _ _ _ _ _ (todo_end HO6.out (by rw [List.length_append, HM.out]; rfl) (by omega) HE6.out HG6.out HXW.out)
end Go.Proofs.Ytfegfbhchdfibaa
