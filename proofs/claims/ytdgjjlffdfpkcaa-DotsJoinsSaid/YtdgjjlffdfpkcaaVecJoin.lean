/- What Join and With answer: the list of both lists' peers with the greater counts. -/
import Derived.Test.YtdgjjlffdfpkcaaVecPlain
import Derived.Test.YtdgjjlffdfpkcaaRangeTw
namespace Go.Proofs.Ytdgjjlffdfpkcaa
open Go.RowKit Go.Shelf
attribute [local go_sem] Oper.semAt_some

theorem info_dot : (Try.prog.info? 26).map (fun i => (i.zero, i.size, i.bytes)) = some (some (dotV (0, 0)), 2, 16) := by kernel_rfl

/-- Between two rounds: out, in its box, owns the dots that have come; what was there lies as it lay. -/
def MadeI (w : World) (pre : List (Int × Int × Int)) (W : World) : Prop :=
  (∃ v, Boxed W w.heap.size 22 v ∧ W.ownsRow (w.heap.size + 3) 26 2 v (Vec.maxes pre).length (dotCells (Vec.maxes pre))) ∧ Ext w W ∧ w.heap.size + 3 ≤ W.heap.size

theorem own_ge2 {W : World} {base : Nat} {e : TypeId} {size : Nat} {v : Value} {k : Nat} {xs : List Value} (h : W.ownsRow base e size v k xs) {c : Nat} (hc : c < base) : v.ownBlock ≠ some c := by
  intro ej
  rcases h.2 with ⟨rfl, _⟩ | ⟨g, cap, cur, rfl, hb, _, _⟩
  · simp [Value.ownBlock] at ej
  · obtain rfl : g = c := by simpa [Value.ownBlock] using ej
    omega

theorem ownsRow_blocks {W W' : World} {base : Nat} {e : TypeId} {size : Nat} {v : Value} {k : Nat} {xs : List Value} (h : W.ownsRow base e size v k xs) (hb : ∀ g, base ≤ g → g < W.heap.size → W'.heap[g]? = W.heap[g]?) : W'.ownsRow base e size v k xs := by
  refine ⟨h.1, ?_⟩
  rcases h.2 with h0 | ⟨g, cap, cur, rfl, h1, h2, h3⟩
  · exact .inl h0
  · exact .inr ⟨g, cap, cur, rfl, h1, (hb g h1 (Array.getElem?_eq_some_iff.1 h2).1).trans h2, h3⟩

theorem MadeI.turned {w : World} {pre : List (Int × Int × Int)} {W W' : World} (ht : Turned (fun B => B = w.heap.size + 1 ∨ B = w.heap.size + 2) W W') (h : MadeI w pre W) : MadeI w pre W' := by
  obtain ⟨⟨u, hu, hr⟩, he, hs⟩ := h
  refine ⟨⟨u, (ht.block _ (by omega) (by omega)).trans hu, ownsRow_blocks hr fun g h1 h2 => ht.block _ h2 (by omega)⟩, ht.ext he (by intro k hk; omega), by have := ht.size; omega⟩
theorem MadeI.putObj {w : World} {pre : List (Int × Int × Int)} {W : World} (h : MadeI w pre W) (l : Nat) (o : Obj) (r : Loop) (hl : w.heap.size + 3 ≤ l) (hk : W.heap[l]? = some (.loop r)) : MadeI w pre (W.putObj l o) := by
  obtain ⟨⟨u, hu, hr⟩, he, hs⟩ := h
  exact ⟨⟨u, hu.kept (grownBy_putObj' W l o) (by intro e; have := Option.some.inj e; omega), ownsRow_putObj hr o hk rfl⟩, he.grown (grownBy_putObj' W l o) (by intro k e; injection e; omega), by rw [World.putObj_size]; exact hs⟩
theorem MadeI.alloc {w : World} {pre : List (Int × Int × Int)} {W : World} (h : MadeI w pre W) (o : Obj) : MadeI w pre (W.alloc o) := by
  obtain ⟨⟨u, hu, hr⟩, he, hs⟩ := h
  exact ⟨⟨u, hu.alloc o, hr.alloc o⟩, he.alloc o, by rw [World.size_alloc]; omega⟩

theorem held_of {w w' : World} {p : Option Addr} {c B : Nat} {l : List Dot} (hc : w'.cell? ⟨B, 0, none⟩ = some (.slice p l.length c)) (hf : w'.frozen? ⟨B, 0, none⟩ = false) (h1 : l.length ≤ c) (h2 : c ≤ maxLen) (hd : Dots w p l.length l) (he : Ext w w') : Held w' w.heap.size B l := by
  refine ⟨p, c, hc, hf, h1, h2, hd.ext he, fun q hq hl => ?_⟩
  rcases hd.2.2.2 with h0 | ⟨b, off, rfl, hs⟩
  · exact absurd (List.length_eq_zero_iff.1 h0) hl
  · cases hq
    have := lt_of_cell (hs 0 (by cases l with | nil => exact absurd rfl hl | cons d l => simp)).1
    exact this

/-- 'out = append(out, x)', out in a box: what the walk owes. -/
theorem box_app {w0 W w1 : World} {n₀ B : Nat} {t e : TypeId} {size : Nat} {v v' : Value} {k m : Nat} {xs ys : List Value} {tmp : Obj}
    (hv : Boxed W B t v) (hte : t ≠ e) (hrow : W.ownsRow n₀ e size v k xs) (hn₀ : n₀ ≤ W.heap.size) (h0 : Ext w0 W) (hw0 : w0.heap.size ≤ n₀) (hB : w0.heap.size ≤ B)
    (hown' : w1.ownsRow n₀ e size v' m ys) (hgrow : (W.alloc tmp).grownBy w1 v.ownBlock) :
    Boxed w1 B t v ∧ Boxed (w1.setCell ⟨B, 0, none⟩ v') B t v' ∧ (w1.setCell ⟨B, 0, none⟩ v').ownsRow n₀ e size v' m ys ∧ KeepsOthers W (w1.setCell ⟨B, 0, none⟩ v') ∧
      Ext w0 (w1.setCell ⟨B, 0, none⟩ v') ∧ (∀ C, C < n₀ → C ≠ B → (w1.setCell ⟨B, 0, none⟩ v').heap[C]? = W.heap[C]?) ∧ W.heap.size ≤ (w1.setCell ⟨B, 0, none⟩ v').heap.size := by
  have hv1 : Boxed w1 B t v := (hv.alloc tmp).kept hgrow (hv.not_row hte hrow)
  have hown : ∀ j, v.ownBlock = some j → n₀ ≤ j := by
    intro j ej
    rcases hrow.2 with ⟨rfl, _⟩ | ⟨g, cap, cur, rfl, hb, _, _⟩
    · simp [Value.ownBlock] at ej
    · obtain rfl : g = j := by simpa [Value.ownBlock] using ej
      exact hb
  have hs := hgrow.size
  rw [World.size_alloc] at hs
  refine ⟨hv1, hv1.set v', hown'.kept (grownBy_setCell' w1 B v') (.inr (hv1.not_row hte hown').symm), ?_, ?_, ?_, by rw [World.size_setCell]; omega⟩
  · refine ((KeepsOthers.alloc W tmp).trans (KeepsOthers.of_grownBy hgrow fun j o ej hj => ?_)).trans (KeepsOthers.setCell _ _ _)
    rcases (hrow.alloc tmp).2 with ⟨rfl, _⟩ | ⟨g, cap, cur, rfl, _, hgb, _⟩
    · simp [Value.ownBlock] at ej
    · obtain rfl : g = j := by simpa [Value.ownBlock] using ej
      rw [hgb] at hj; cases hj; rfl
  · exact ((h0.alloc tmp).grown hgrow fun j ej => Nat.le_trans hw0 (hown j ej)).setCell hB v'
  · intro C hC hne
    rw [Below.heap_setCell _ _ _ _ hne, hgrow.block C (by rw [World.size_alloc]; omega) (fun e' => by have := hown C e'.symm; omega), Below.heap_alloc _ _ _ (by omega)]

theorem MadeI.ext {w : World} {pre : List (Int × Int × Int)} {W W' : World} (h : MadeI w pre W) (ht : Ext W W') : MadeI w pre W' := by
  obtain ⟨⟨u, hu, hr⟩, he, hs⟩ := h
  refine ⟨⟨u, (ht.block (by omega)).trans hu, ownsRow_blocks hr fun g h1 h2 => ht.block h2⟩, he.trans ht, by have := ht.size; omega⟩

theorem cell_not_loop {W : World} {a : Addr} {v : Value} {l : Nat} {r : Loop} (h : W.cell? a = some v) (hl : W.heap[l]? = some (.loop r)) : a.block ≠ l := by
  rintro rfl
  unfold World.cell? at h
  rw [hl] at h
  cases h

/-- A value that leads to no block below a bound. -/
def NewV (N : Nat) (v : Value) : Prop := ∀ q n c, v = .slice (some q) n c → N ≤ q.block
theorem NewV.nil (N n c : Nat) : NewV N (.slice none n c) := fun q n c h => by cases h
theorem NewV.mono {N M : Nat} {v : Value} (h : NewV N v) (hm : M ≤ N) : NewV M v := fun q n c e => Nat.le_trans hm (h q n c e)
theorem row_new {W : World} {base : Nat} {e : TypeId} {size : Nat} {v : Value} {k : Nat} {xs : List Value} (h : W.ownsRow base e size v k xs) : NewV base v := by
  rcases h.2 with ⟨rfl, _⟩ | ⟨g, cap, cur, rfl, hb, _⟩
  · exact NewV.nil _ _ _
  · intro q n c e; cases e; exact hb

theorem rows_two (p q : Option Addr) (c1 c2 : Nat) (a b : List Dot) (w : World) (o : Obj) (ha : Dots w p a.length a) (hb : Dots w q b.length b) :
    RowsAt ((w.alloc o).alloc (.cells #[.slice p a.length c1, .slice q b.length c2] 22)) (w.heap.size + 1) [⟨p, a.length, c1, a⟩, ⟨q, b.length, c2, b⟩] := by
  have he : Ext w ((w.alloc o).alloc (.cells #[.slice p a.length c1, .slice q b.length c2] 22)) := ((Ext.refl _).alloc _).alloc _
  have hc : ∀ i, ((w.alloc o).alloc (.cells #[.slice p a.length c1, .slice q b.length c2] 22)).cell? ⟨w.heap.size + 1, i, none⟩ = (#[Value.slice p a.length c1, Value.slice q b.length c2] : Array Value)[i]? := by
    intro i
    have := alloc_cell (w.alloc o) #[.slice p a.length c1, .slice q b.length c2] 22 i
    rw [World.size_alloc] at this
    exact this
  intro i hi
  match i, hi with
  | 0, _ => exact ⟨hc 0, ha.ext he⟩
  | 1, _ => exact ⟨hc 1, hb.ext he⟩

theorem any_two {p q : Option Addr} {n1 n2 c1 c2 : Nat} {a b : List Dot} : (!([⟨p, n1, c1, a⟩, ⟨q, n2, c2, b⟩] : List Row).any bad) = decide (Vec.checkE (-1) a = 0 ∧ Vec.checkE (-1) b = 0) := by
  simp [bad]

set_option maxRecDepth 100000 in
set_option maxHeartbeats 2000000 in
theorem vec_made_no (p q : Option Addr) (c1 c2 : Nat) (a b : List Dot) (w : World) (ha : Dots w p a.length a) (hb : Dots w q b.length b) (hr : ¬ (Vec.checkE (-1) a = 0 ∧ Vec.checkE (-1) b = 0)) :
    Calls Try.prog 58 #[.slice p a.length c1, .slice q b.length c2, .func (.func 59) #[] #[]] w fun e w' => ∃ v, e = .returned v ∧ DotsV w' v (Vec.joinL a b) ∧ NewV w.heap.size v ∧ Ext w w' := by
  have HR := Lib.hid hr
  clear hr
  go_enter Try.func58, Try.ntmps58
  go_wp2_with fail
  refine (vec_right _ 2 [⟨p, a.length, c1, a⟩, ⟨q, b.length, c2, b⟩] _ rfl (by unfold maxLen; omega) (rows_two p q c1 c2 a b w _ ha hb)).mono ?_
  rw [any_two, decide_eq_false HR.out]
  rintro e w2 ⟨rfl, g2⟩
  go_wp2
  go_ret
  refine ⟨_, rfl, ?_, NewV.nil _ _ _, (((Ext.refl _).alloc _).alloc _).trans g2⟩
  have : Vec.joinL a b = [] := if_neg HR.out
  rw [this]
  exact ⟨none, 0, rfl, by simp, by unfold maxLen; omega, rfl, by simp, by simp, .inl rfl⟩

set_option maxRecDepth 100000 in
set_option maxHeartbeats 2000000 in
theorem vec_made_yes (p q : Option Addr) (c1 c2 : Nat) (a b : List Dot) (w : World) (h1 : a.length ≤ c1) (h2 : c1 ≤ maxLen) (h3 : b.length ≤ c2) (h4 : c2 ≤ maxLen) (ha : Dots w p a.length a) (hb : Dots w q b.length b) (hab : (Vec.merge a b).length ≤ 1048576) (hM : ∀ d ∈ Vec.maxes (Vec.merge a b), Fit d) (hr : Vec.checkE (-1) a = 0 ∧ Vec.checkE (-1) b = 0) :
    Calls Try.prog 58 #[.slice p a.length c1, .slice q b.length c2, .func (.func 59) #[] #[]] w fun e w' => ∃ v, e = .returned v ∧ DotsV w' v (Vec.maxes (Vec.merge a b)) ∧ NewV w.heap.size v ∧ Ext w w' := by
  obtain ⟨i0, hi, hz0, hz1, hz2⟩ := info_parts info_dot
  have Hi := Lib.hid hi
  have HR := Lib.hid hr
  clear hi hr
  refine callsIn_wide (n := 10).1 ?_
  refine callsIn_of_wp_marks Try.func58 rfl trivial ?_ rfl
  simp only [Try.ntmps58, List.size_toArray, List.length_cons, List.length_nil, Nat.reduceAdd, Nat.reduceSub, Array.replicate_succ, Array.replicate_zero, List.push_toArray, List.append_toArray, List.nil_append, List.cons_append]
  gi_wp2_with (refine ⟨trivial, ?_⟩; gi_at_call 51)
  have hT := rows_two p q c1 c2 a b w (.cells #[.func (.func 59) #[] #[]] 69) ha hb
  have hF : ((w.alloc (.cells #[.func (.func 59) #[] #[]] 69)).alloc (.cells #[.slice p a.length c1, .slice q b.length c2] 22)).cell? ⟨w.heap.size, 0, none⟩ = some (.func (.func 59) #[] #[]) :=
    (World.cell?_alloc_lt _ _ _ (by simp)).trans (World.cell?_alloc_at _ _ _ _ (by simp))
  have hE : Ext w ((w.alloc (.cells #[.func (.func 59) #[] #[]] 69)).alloc (.cells #[.slice p a.length c1, .slice q b.length c2] 22)) := ((Ext.refl _).alloc _).alloc _
  refine (callsIn_wide.2 (vec_right _ 2 [⟨p, a.length, c1, a⟩, ⟨q, b.length, c2, b⟩] _ rfl (by unfold maxLen; omega) hT)).mono ?_
  rw [any_two, decide_eq_true HR.out]
  rintro e w2 ⟨rfl, g2⟩
  have f2 := g2.cell hF
  have e2 := hE.trans g2
  have ha2 := ha.ext e2
  have hb2 := hb.ext e2
  clear hT hF hE g2
  gi_wp2_with (refine ⟨trivial, ?_⟩; gi_at_call 71; refine (callsIn_wide.2 (pairs_any _ _ _ _ _ _ _)).mono ?_; rintro e w' ⟨rfl, rfl⟩)
  have bO := Boxed.new w2 22 (.slice none 0 0)
  have hA : Held (((w2.alloc (.cells #[.slice none 0 0] 22)).alloc (.cells #[.slice p a.length c1] 22)).alloc (.cells #[.slice q b.length c2] 22)) w2.heap.size (w2.heap.size + 1) a :=
    held_of ((World.cell?_alloc_lt _ _ _ (by simp)).trans (World.cell?_alloc_at _ _ _ _ (by simp))) ((World.frozen?_of_block (a := ⟨w2.heap.size + 1, 0, none⟩) (Below.heap_alloc _ _ _ (by simp))).trans (World.frozen?_alloc_at _ _ _ _ (by simp))) h1 h2 ha2 ((((Ext.refl _).alloc _).alloc _).alloc _)
  have hB : Held (((w2.alloc (.cells #[.slice none 0 0] 22)).alloc (.cells #[.slice p a.length c1] 22)).alloc (.cells #[.slice q b.length c2] 22)) w2.heap.size (w2.heap.size + 2) b :=
    held_of (World.cell?_alloc_at _ _ _ _ (by simp)) (World.frozen?_alloc_at _ _ _ _ (by simp)) h3 h4 hb2 ((((Ext.refl _).alloc _).alloc _).alloc _)
  have hI0 : MadeI w2 [] (((w2.alloc (.cells #[.slice none 0 0] 22)).alloc (.cells #[.slice p a.length c1] 22)).alloc (.cells #[.slice q b.length c2] 22)) :=
    ⟨⟨_, (bO.alloc _).alloc _, World.ownsRow_nil _ _ _ _⟩, (((Ext.refl _).alloc _).alloc _).alloc _, by simp⟩
  refine range_tw (F := Fence.wide) rfl (by omega) (gf := 84) (lb := #[.pointer (some ⟨w2.heap.size + 1, 0, none⟩), .pointer (some ⟨w2.heap.size + 1 + 1, 0, none⟩)]) rfl trivial (enters_of Try.func84 (by kernel_rfl) rfl)
    (pairs_seq w2.heap.size (w2.heap.size + 1) (w2.heap.size + 1 + 1) 9 a b _ (by omega) hA hB) (by intro B hB; simp; omega) (by intro B hB; simp; omega) (fun _ => rfl) (MadeI w2)
    (fun pre W W' ht hi => hi.turned ht) (fun pre W l o r hi hl hk => hi.putObj l o r (by simp at hl; omega) hk) hI0
    (fun x W => { tmps := #[.slice p a.length c1, .slice q b.length c2, .func (.func 59) #[] #[], undef, undef, .pointer (some ⟨w.heap.size, 0, none⟩), .slice none 0 0, .pointer (some ⟨w2.heap.size, 0, none⟩), .int .i64 x.1, .pointer (some ⟨W.heap.size, 0, none⟩), undef, .slice p a.length c1, .slice q b.length c2,
      .slice (some ⟨w.heap.size + 1, 0, none⟩) 2 2, .bool true, .bool false, .slice p a.length c1, .slice q b.length c2, .func (.func 84) #[] #[.pointer (some ⟨w2.heap.size + 1, 0, none⟩), .pointer (some ⟨w2.heap.size + 1 + 1, 0, none⟩)],
      .int .i64 x.1, .agg #[.int .i64 x.2.1, .int .i64 x.2.2], undef, undef, undef, undef, undef, undef, undef, undef, undef, undef, undef, undef, undef, undef, undef], defers := [] })
    (fun x W => W.alloc (.cells #[.int .i64 x.2.1, .int .i64 x.2.2] 90)) ?assign ?hw ?body ?done
  case assign =>
    intro l x W K hK
    simp only [pairV]
    gi_wp2
    exact hK
  case hw =>
    intro pre x W hi
    have he : Ext W (W.alloc (.cells #[.int .i64 x.2.1, .int .i64 x.2.2] 90)) := (Ext.refl _).alloc _
    exact ⟨hi.ext he, keeps_of_ext he, fun B hB => he.block (by have := hi.2.2; omega)⟩
  case body =>
    intro l pre x rest W o r hx hi hl hlw hI
    have c0 : (W.alloc (.cells #[.int .i64 x.2.1, .int .i64 x.2.2] 90)).cell? ⟨W.heap.size, 0, none⟩ = some (.int .i64 x.2.1) := alloc_cell _ _ _ 0
    have c1 : (W.alloc (.cells #[.int .i64 x.2.1, .int .i64 x.2.2] 90)).cell? ⟨W.heap.size, 1, none⟩ = some (.int .i64 x.2.2) := alloc_cell _ _ _ 1
    have hne := cell_not_loop c0 hl
    replace c0 := (World.cell?_of_block (a := ⟨W.heap.size, 0, none⟩) (World.putObj_heap_other (o := o) hne)).trans c0
    replace c1 := (World.cell?_of_block (a := ⟨W.heap.size, 1, none⟩) (World.putObj_heap_other (o := o) hne)).trans c1
    generalize ((W.alloc (.cells #[.int .i64 x.2.1, .int .i64 x.2.2] 90)).putObj l o) = W2 at *
    have hlen := Vec.maxes_length pre
    have hlen2 := congrArg List.length hx
    rw [List.length_append, List.length_cons] at hlen2
    have f3 := hI.2.1.cell f2
    obtain ⟨p1, x1, y1⟩ := x
    simp only at c0 c1 hx
    have HX := Lib.hid hx
    clear hi hl hlw hx hne ha hb hA hB hI0 h1 h2 h3 h4 hM ha2 hb2 bO HR
    by_cases hpos : 0 < max x1 y1
    · have hm := Vec.maxes_some pre (p1, x1, y1) hpos
      simp only at hm
      obtain ⟨⟨v, hv, hrow⟩, hE, hS⟩ := hI
      have hcv := hv.cell
      have b1 : (Vec.maxes pre).length + 1 ≤ maxLen := by unfold maxLen; omega
      have b2 : ((Vec.maxes pre).length + 1) * 16 ≤ 140737488355328 := by omega
      have b3 : w2.heap.size + 3 ≤ (W2.alloc (.cells #[.int .i64 p1, .int .i64 (max x1 y1)] 26)).heap.size := by rw [World.size_alloc]; omega
      have HM := Lib.hid hm
      have HV := Lib.hid (vec_max x1 y1)
      have hpos2 : decide (max x1 y1 > 0) = true := decide_eq_true hpos
      clear hm
      generalize max x1 y1 = z at *
      generalize hD : dotCells (Vec.maxes pre) = D at *
      generalize hK : (Vec.maxes pre).length = K at *
      gi_wp2_with (first | (refine ⟨trivial, ?_⟩; gi_at_call 59; refine (callsIn_wide.2 (HV.out _)).mono ?_; rintro e w' ⟨rfl, rfl⟩) | (gi_at_builtin; refine wpListIn_append_own _ rfl _ _ 22 rfl (w2.heap.size + 3) 26 i0 (dotV (0, 0)) 2 16 Try.underlying22 Hi.out hz0 hz1 hz2 rfl (by decide) _ _ _ rfl (hrow.alloc _) ⟨W2.heap.size, 0, none⟩ 1 1 [.int .i64 p1, .int .i64 z] rfl rfl (cell_two_new _ _ _ _) (by simp [Value.oneCell']) b1 b2 b3 ?_; intro v' w1 hown' hgrow _; obtain ⟨g', cap', rfl⟩ := ownsRow_succ hown'; obtain ⟨hv1, hv2, hr2, hk2, he2, hc2, hs2⟩ := box_app hv (by decide) hrow (by omega) hE (by omega) (Nat.le_refl _) hown' hgrow; have hc1 := hv1.cell; have hf1 := hv1.frozen))
      refine ⟨hk2, fun B hB => hc2 B (by omega) (by omega), ⟨_, hv2, ?_⟩, he2, by omega⟩
      rw [HM.out, dotCells_app, hD, List.length_append, hK]
      exact hr2
    · have hm := Vec.maxes_none pre (p1, x1, y1) hpos
      have HM := Lib.hid hm
      have HV := Lib.hid (vec_max x1 y1)
      have hpos2 : decide (max x1 y1 > 0) = false := decide_eq_false hpos
      have HI := Lib.hid hI
      clear hm hI
      generalize max x1 y1 = z at *
      gi_wp2_with (refine ⟨trivial, ?_⟩; gi_at_call 59; refine (callsIn_wide.2 (HV.out _)).mono ?_; rintro e w' ⟨rfl, rfl⟩)
      refine ⟨KeepsOthers.refl _, fun _ _ => rfl, ?_⟩
      unfold MadeI
      rw [HM.out]
      exact HI.out
  case done =>
    rintro D W hD ⟨⟨v, hv, hrow⟩, hE, hS⟩ hK
    have hc := hv.cell
    rw [World.size_alloc, World.size_alloc, World.size_alloc] at hD
    gi_wp2
    refine ⟨by simp, .inl ⟨_, _, rfl, run_takeDeferred hK, ?_⟩⟩
    exact ⟨_, results_tmp rfl _ _ _, _, rfl, row_dots (ownsRow_putObj hrow _ hK rfl) hM (by have := Vec.maxes_length (Vec.merge a b); omega), (row_new hrow).mono (by have := e2.size; omega), e2.trans (hE.grown (grownBy_putObj' W D _) (by intro k e; have := Option.some.inj e; omega))⟩

theorem vec_made (p q : Option Addr) (c1 c2 : Nat) (a b : List Dot) (w : World) (h1 : a.length ≤ c1) (h2 : c1 ≤ maxLen) (h3 : b.length ≤ c2) (h4 : c2 ≤ maxLen) (ha : Dots w p a.length a) (hb : Dots w q b.length b) :
    Calls Try.prog 58 #[.slice p a.length c1, .slice q b.length c2, .func (.func 59) #[] #[]] w fun e w' => ∃ v, e = .returned v ∧ DotsV w' v (Vec.joinL a b) ∧ NewV w.heap.size v ∧ Ext w w' := by
  by_cases hr : Vec.checkE (-1) a = 0 ∧ Vec.checkE (-1) b = 0
  · have ka := Vec.check_ok.1 hr.1
    have kb := Vec.check_ok.1 hr.2
    have l1 := Vec.ok_length ka
    have l2 := Vec.ok_length kb
    have l3 := Vec.merge_length a b
    have hj : Vec.joinL a b = Vec.maxes (Vec.merge a b) := if_pos hr
    rw [hj]
    exact vec_made_yes p q c1 c2 a b w h1 h2 h3 h4 ha hb (by omega) (Vec.maxes_merge a b ka kb).1.fit hr
  · exact vec_made_no p q c1 c2 a b w ha hb hr

set_option maxRecDepth 100000 in
theorem vec_join (u v : Value) (a b : List Dot) (w : World) (ha : DotsV w u a) (hb : DotsV w v b) :
    Calls Try.prog 43 #[u, v] w fun e w' => ∃ v', e = .returned v' ∧ DotsV w' v' (Vec.joinL a b) ∧ NewV w.heap.size v' ∧ Ext w w' := by
  obtain ⟨p, c1, rfl, h1, h2, ha⟩ := ha
  obtain ⟨q, c2, rfl, h3, h4, hb⟩ := hb
  go_enter Try.func43, Try.ntmps43
  go_wp2_with fail
  refine (vec_made p q c1 c2 a b _ h1 h2 h3 h4 ha hb).mono ?_
  rintro e w2 ⟨v, rfl, h5, h6, g2⟩
  go_wp2
  go_ret
  exact ⟨_, rfl, h5, h6, g2⟩

/-- A list of one dot, in a new block. -/
theorem dots_one (d : Dot) (hd : Fit d) (w : World) : DotsV (w.alloc (.cells #[.int .i64 d.1, .int .i64 d.2] 26)) (.slice (some ⟨w.heap.size, 0, none⟩) 1 1) [d] := by
  refine ⟨_, 1, rfl, by simp, by unfold maxLen; omega, rfl, by simp, by simpa using hd, .inr ⟨w.heap.size, 0, rfl, fun i hi => ?_⟩⟩
  obtain rfl : i = 0 := by simpa using hi
  exact ⟨alloc_cell _ _ _ 0, alloc_cell _ _ _ 1⟩

set_option maxRecDepth 100000 in
theorem vec_with (v : Value) (d : Dot) (a : List Dot) (w : World) (ha : DotsV w v a) (hd : Fit d) :
    Calls Try.prog 56 #[v, dotV d] w fun e w' => ∃ v', e = .returned v' ∧ DotsV w' v' (Vec.joinL a [d]) ∧ NewV w.heap.size v' ∧ Ext w w' := by
  unfold dotV
  go_enter Try.func56, Try.ntmps56
  go_wp2_with fail
  have hE : Ext w ((w.alloc (.cells #[.int .i64 d.1, .int .i64 d.2] 26)).alloc (.cells #[.int .i64 d.1, .int .i64 d.2] 26)) := ((Ext.refl w).alloc _).alloc _
  have h1 := dots_one d hd (w.alloc (.cells #[.int .i64 d.1, .int .i64 d.2] 26))
  rw [World.size_alloc] at h1
  have h2 := ha.ext hE
  refine (vec_join _ _ a [d] _ h2 h1).mono ?_
  rintro e w2 ⟨v', rfl, h5, h6, g2⟩
  go_wp2
  go_ret
  exact ⟨_, rfl, h5, h6.mono (by have := hE.size; exact this), hE.trans g2⟩

end Go.Proofs.Ytdgjjlffdfpkcaa
