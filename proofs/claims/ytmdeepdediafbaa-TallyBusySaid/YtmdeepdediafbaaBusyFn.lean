/- What Busy answers: the peers of events, the busiest ahead. -/
import Derived.Test.YtmdeepdediafbaaBusySort
import Derived.Test.YtmdeepdediafbaaTallyOf
import Derived.Maps.AppendAt
namespace Go.Proofs.Ytmdeepdediafbaa
open Go.RowKit Go.Shelf Go.Maps

theorem ext_grown {w w' : World} (h : Ext w w') : w.grownBy w' none := ⟨h.os, h.tape, h.output, h.size, fun _ hk _ => h.block hk⟩
theorem row_kept {W W' : World} {base : Nat} {e : TypeId} {size : Nat} {v : Value} {n : Nat} {xs : List Value} {b : Nat} (h : W.ownsRow base e size v n xs) (hg : W.grownBy W' (some b)) (hb : b < base) : W'.ownsRow base e size v n xs :=
  h.kept hg (Or.inr fun e => by have := ownsRow_from h b e; omega)
theorem row_other {W : World} {base : Nat} {e : TypeId} {size : Nat} {v : Value} {n : Nat} {xs : List Value} {b : Nat} (h : W.ownsRow base e size v n xs) (hb : b < base ∨ W.heap.size ≤ b) : some b ≠ v.ownBlock := fun e => by
  have h1 := ownsRow_from h b e.symm
  have h2 := (h.lt b e.symm).2
  omega
theorem row_none {W W' : World} {base : Nat} {e : TypeId} {size : Nat} {v : Value} {n : Nat} {xs : List Value} {b : Nat} (h : W.ownsRow base e size v n xs) (_ : W'.ownsRow base e size v n xs) (hb : W.heap.size ≤ b) : some b ≠ v.ownBlock :=
  row_other h (.inr hb)
theorem Counts.zero {D : DataW Unit} {ps : List Int} (h : Counts D ps) {x c : Int} (hn : ps.count x = 0) (hat : D.atKey (.int .i64 x) (.lit (.int .i64 0)) = .lit (.int .i64 c)) : c = 0 := by
  have := h.is hat
  rw [hn] at this
  exact this
theorem ev_boxed {wr W : World} {z : Array Value} {t : TypeId} {e : Ev} (hz : z.size = 12) (h : (wr.alloc (.cells z t)).setCells wr.heap.size 0 e.cells.toArray.toList = W) : W.cell? ⟨wr.heap.size, 2, none⟩ = some (.int .i64 e.peer) ∧ Ext wr W := by
  subst h
  have hr := there_new wr z t
  rw [hz] at hr
  exact ⟨World.rangeAt_setCells_same _ wr.heap.size 0 e.cells hr 2 _ rfl, Ext.setCells wr.heap.size (Nat.le_refl _) e.cells 0 _ ((Ext.refl wr).alloc _)⟩
theorem behind_append {W w3 w4 : World} {base bm bx n : Nat} {e : TypeId} {v : Value} {m : Nat} {xs : List Value} {D : DataW Unit} {y z : Value} {o : Obj} (h0 : W.ownsRow base e 1 v m xs) (h3 : w3.ownsRow base e 1 v m xs) (hown : w3.ownsMap Try.prog 3 (plainElem Try.prog 3) bm n D)
    (hb : w3.cell? ⟨bx, 0, none⟩ = some y) (hp : w3.cell? ⟨W.heap.size, 2, none⟩ = some z) (hg : (w3.alloc o).grownBy w4 v.ownBlock) (h1 : bm < base) (h2 : bx < base) :
    w4.ownsMap Try.prog 3 (plainElem Try.prog 3) bm n D ∧ w4.cell? ⟨bx, 0, none⟩ = some y ∧ w4.cell? ⟨W.heap.size, 2, none⟩ = some z :=
  ⟨(hown.alloc o).kept hg (row_other h3 (.inl h1)), hg.cell (((Ext.refl w3).alloc o).cell hb) (row_other h3 (.inl h2)), hg.cell (((Ext.refl w3).alloc o).cell hp) (row_other h0 (.inr (Nat.le_refl _)))⟩
theorem peer_wf {x : Int} (h : -9223372036854775808 ≤ x ∧ x < 9223372036854775808) : (Lit.int .i64 x).wf = true := by
  simp [Lit.wf, IntKind.min, IntKind.max, IntKind.signed, IntKind.bits]; omega

theorem Counts.put {D : DataW Unit} {ps : List Int} {k : Nat} (h : Counts D (ps.take k)) (hm : IsMap D) (hk : k < ps.length) {x v : Int} (hx : ps[k] = x) (hv : v = ((ps.take k).count x : Nat) + 1) :
    Counts (D.put (.int .i64 x) (.lit (.int .i64 v))) (ps.take (k + 1)) := by
  intro y
  rw [count_next ps k hk y, hx]
  by_cases hy : x = y
  · subst hy
    rw [atKey_put_same hm (by simp [WideAt.IsKeyLit]), if_pos rfl, hv]
    rfl
  · rw [atKey_put_other (by intro e; injection e with _ e; exact hy e.symm), h y, if_neg hy]
    rfl

set_option maxRecDepth 100000 in
set_option maxHeartbeats 4000000 in
theorem tally_busy (p : Option Addr) (n c : Nat) (l : List Ev) (w : World) (hm : n ≤ 60) (hl : Events w p n l) :
    Calls Try.prog 16 #[.slice p n c] w fun e w' => ∃ v, e = .returned v ∧ IntsV w' v ((Busy.firsts (peersOf l)).mergeSort fun x y => !Busy.lt (peersOf l) y x) ∧ Ext w w' := by
  have hmm := @run_makeMap Try.prog
  go_enter Try.func16, Try.ntmps16
  go_wp2
  have hM0 : ((w.alloc (Obj.map #[] 0)).alloc (Obj.cells #[Value.map (some w.heap.size)] 54)).ownsMap Try.prog 3 (plainElem (H := Unit) Try.prog 3) w.heap.size 0 (.map []) := (World.ownsMap_made _ _ _ _).alloc _
  have hB0 : ((w.alloc (Obj.map #[] 0)).alloc (Obj.cells #[Value.map (some w.heap.size)] 54)).cell? ⟨w.heap.size + 1, 0, none⟩ = some (.map (some w.heap.size)) := by
    have h := alloc_cell (w.alloc (Obj.map #[] 0)) #[Value.map (some w.heap.size)] 54 0
    rw [World.size_alloc] at h
    exact h
  have hE0 : Ext w ((w.alloc (Obj.map #[] 0)).alloc (Obj.cells #[Value.map (some w.heap.size)] 54)) := ((Ext.refl w).alloc _).alloc _
  have hS0 : ((w.alloc (Obj.map #[] 0)).alloc (Obj.cells #[Value.map (some w.heap.size)] 54)).heap.size = w.heap.size + 2 := by rw [World.size_alloc, World.size_alloc]
  generalize (w.alloc (Obj.map #[] 0)).alloc (Obj.cells #[Value.map (some w.heap.size)] 54) = w1 at *
  obtain ⟨i0, hi, hz0, hz1, hz2⟩ := info_parts info_int
  have Hi := Lib.hid hi
  have HL := Lib.hid hl
  clear hi hl
  go_loopw [4, 10] (fun ov i wr => ∃ (k : Nat) (D : DataW Unit), k ≤ n ∧ i = .int .i64 k ∧ wr.ownsMap Try.prog 3 (plainElem Try.prog 3) w.heap.size k D ∧ Counts D ((peersOf l).take k) ∧ wr.ownsRow (w.heap.size + 2) 3 1 ov (Busy.firsts ((peersOf l).take k)).length (intCells (Busy.firsts ((peersOf l).take k))) ∧
      wr.cell? ⟨w.heap.size + 1, 0, none⟩ = some (.map (some w.heap.size)) ∧ Ext w wr ∧ w.heap.size + 2 ≤ wr.heap.size) (fun _ i _ => n - (intOf i).toNat)
  case atStart =>
    refine ⟨0, .map [], by omega, rfl, hM0, ?_, ?_, hB0, hE0, by omega⟩
    · intro x; rw [List.take_zero]; rfl
    · rw [List.take_zero]; exact World.ownsRow_nil _ _ _ _
  case round =>
    obtain ⟨k, D, hk, rfl, hown, hcnt, hrow, hbox, he, hsz⟩ := hrel
    have HC := Lib.hid hcnt
    clear hcnt
    obtain ⟨op, oc, rfl⟩ := ownsRow_isSlice hrow
    by_cases hlt : k < n
    · have hkl : k < l.length := by rw [HL.out.1]; exact hlt
      have hkp : k < (peersOf l).length := by rw [peersOf_length]; exact hkl
      obtain ⟨_, _, hfit, h4 | ⟨b, off, rfl, hl⟩⟩ := HL.out
      · omega
      have hrg := hl.ext he k hkl
      have hfe := peer_wf (hfit l[k] (List.getElem_mem _)).2.2.1
      have hfn := Busy.firsts_next (peersOf l) k hkp
      have hmem := Busy.mem_firsts ((peersOf l).take k) l[k].peer
      have hlen := Busy.firsts_length ((peersOf l).take k)
      rw [List.length_take] at hlen
      have hpk := peersOf_at l k hkl
      rw [hpk] at hfn
      have hcl : ((peersOf l).take k).count l[k].peer ≤ k := Nat.le_trans List.count_le_length (by rw [List.length_take]; omega)
      have hcp : 0 < ((peersOf l).take k).count l[k].peer ↔ l[k].peer ∈ (peersOf l).take k := List.count_pos_iff
      have hput : ∀ v : Int, v = (((peersOf l).take k).count l[k].peer : Nat) + 1 → Counts (D.put (.int .i64 l[k].peer) (.lit (.int .i64 v))) ((peersOf l).take (k + 1)) := fun v hv => HC.out.put hown.isMap hkp hpk hv
      have hkey := keyOf_int_mk Try.underlying3 hfe
      have hwf1 : (Lit.int .i64 ((((peersOf l).take k).count l[k].peer : Nat) + 1 : Int)).wf = true := peer_wf ⟨by omega, by omega⟩
      generalize l[k] = e at *
      have HF := Lib.hid hfn
      have HP := Lib.hid hput
      have hne5 : some (w.heap.size + 1) ≠ some w.heap.size := by simp
      have hne6 : w.heap.size < w.heap.size + 2 := by omega
      have hne7 : w.heap.size + 1 < w.heap.size + 2 := by omega
      have tok1 : True := trivial
      have tok2 : True := trivial
      have tok3 : True := trivial
      have tok4 : True := trivial
      have hb1 : (Busy.firsts ((peersOf l).take k)).length + 1 ≤ maxLen := by unfold maxLen; omega
      have hb2 : ((Busy.firsts ((peersOf l).take k)).length + 1) * 8 ≤ 140737488355328 := by omega
      generalize hF : Busy.firsts ((peersOf l).take k) = F at *
      by_cases hin : e.peer ∈ F
      · have hpos := hcp.2 (hmem.1 hin)
        have d1 : (((((peersOf l).take k).count e.peer : Nat) : Int) == 0) = false := by rw [beq_eq_false_iff_ne]; omega
        have d2 : ((((peersOf l).take k).count e.peer) == 0) = false := by rw [beq_eq_false_iff_ne]; omega
        have d3 : ¬ (((peersOf l).take k).count e.peer = 0) := by omega
        rw [if_pos hin] at HF
        clear hl hfit hfe hfn hmem hlen hpk hcp hput hin hF
        go_wp2_with (first | ((with_reducible refine load_mid_at 49 12 b (off + k * 12) e.cells _ ?_ hrg Try.underlying49 ?_ ?_ ?_); rfl; rfl; exact info_event; skip) | ((with_reducible refine store_mid_at 49 6 13 wr.heap.size 0 e.cells.toArray ?_ ?_ ?_ ?_ (all_oneCell_toArray e.one) ?_); rfl; rfl; exact there_new _ _ _; exact info_event; (generalize hw3 : World.setCells _ _ _ _ = w3; obtain ⟨hp3, hE3⟩ := ev_boxed rfl hw3; have hb3 := hE3.cell hbox; have hown3 := hown.kept (ext_grown hE3) (by simp); have hrow3 := rows_ext hrow hE3; have hs3 := hE3.size; clear hw3)) | (at_lookup; have _t := tok1; refine wpList_lookup_own_int _ rfl _ _ 54 rfl 3 3 .i64 keyed_int Try.underlying54 Try.underlying3 (zero_int _) w.heap.size k D rfl hown3 _ _ rfl hkey ?_; intro c1 hatc1 hwc1; clear tok1; obtain rfl := HC.out.is hatc1) | (at_lookup; have _t := tok3; refine wpList_lookup_own_int _ rfl _ _ 54 rfl 3 3 .i64 keyed_int Try.underlying54 Try.underlying3 (zero_int _) w.heap.size k D rfl hown3 _ _ rfl hkey ?_; intro c3 hatc3 hwc3; clear tok3; obtain rfl := HC.out.is hatc3) | (at_mapUpdate; have _t := tok4; refine wpList_mapUpdate_own _ rfl _ _ _ 54 rfl 3 3 keyed_int Try.underlying54 (plainElem Try.prog 3) w.heap.size k D rfl hown3 (by unfold maxLen; omega) _ _ _ rfl rfl hkey _ [] (plainElem_int Try.underlying3 (by first | exact hwf1 | exact wrap64_wf _)) ?_; intro w5 hown5 hgrow5; clear tok4))
        go_roundw
        case rel =>
          refine ⟨k + 1, _, by omega, by go_num, hown5, HP.out _ (by first | rfl | exact RowKit.wrap64_in _ ⟨by omega, by omega⟩), ?_, hgrow5.cell hb3 hne5, (he.trans hE3).grown hgrow5 (by intro j ej; injection ej with ej; omega), by have := hgrow5.size; omega⟩
          rw [HF.out]
          exact row_kept hrow3 hgrow5 (by omega)
        case measure => simp [intOf]; omega
      · have hno : ((peersOf l).take k).count e.peer = 0 := by
          have : ¬ 0 < ((peersOf l).take k).count e.peer := fun h => hin (hmem.2 (hcp.1 h))
          omega
        have one_wf : (Lit.int .i64 1).wf = true := by decide
        have d1 : (((((peersOf l).take k).count e.peer : Nat) : Int) == 0) = true := by rw [beq_iff_eq]; omega
        have d2 : ((((peersOf l).take k).count e.peer) == 0) = true := by rw [beq_iff_eq]; omega
        rw [if_neg hin] at HF
        have HNO := Lib.hid hno
        clear hl hfit hfe hfn hmem hlen hpk hcl hcp hput hin hF hno
        go_wp2_with (first | ((with_reducible refine load_mid_at 49 12 b (off + k * 12) e.cells _ ?_ hrg Try.underlying49 ?_ ?_ ?_); rfl; rfl; exact info_event; skip) | ((with_reducible refine store_mid_at 49 6 13 wr.heap.size 0 e.cells.toArray ?_ ?_ ?_ ?_ (all_oneCell_toArray e.one) ?_); rfl; rfl; exact there_new _ _ _; exact info_event; (generalize hw3 : World.setCells _ _ _ _ = w3; obtain ⟨hp3, hE3⟩ := ev_boxed rfl hw3; have hb3 := hE3.cell hbox; have hown3 := hown.kept (ext_grown hE3) (by simp); have hrow3 := rows_ext hrow hE3; have hs3 := hE3.size; clear hw3)) | (at_lookup; have _t := tok1; refine wpList_lookup_own_int _ rfl _ _ 54 rfl 3 3 .i64 keyed_int Try.underlying54 Try.underlying3 (zero_int _) w.heap.size k D rfl hown3 _ _ rfl hkey ?_; intro c1 hatc1 hwc1; clear tok1; obtain rfl := HC.out.zero HNO.out hatc1) | (at_builtin; have _t := tok2; refine wpList_append_own _ rfl _ _ 41 rfl (w.heap.size + 2) 3 i0 (.int .i64 0) 1 8 Try.underlying41 Hi.out hz0 hz1 hz2 rfl (by decide) _ _ _ rfl (hrow3.alloc _) ⟨w3.heap.size, 0, none⟩ 1 1 [.int .i64 e.peer] rfl rfl (cell_one_new _ _ _) (by simp [Value.oneCell']) hb1 hb2 (by rw [World.size_alloc]; omega) ?_; intro v' w4 hown' hgrow4 _; clear tok2; obtain ⟨hown4, hb4, hp4⟩ := behind_append hrow hrow3 hown3 hb3 hp3 hgrow4 hne6 hne7) | (at_lookup; have _t := tok3; refine wpList_lookup_own_int _ rfl _ _ 54 rfl 3 3 .i64 keyed_int Try.underlying54 Try.underlying3 (zero_int _) w.heap.size k D rfl hown4 _ _ rfl hkey ?_; intro c3 hatc3 hwc3; clear tok3; obtain rfl := HC.out.zero HNO.out hatc3) | (at_mapUpdate; have _t := tok4; refine wpList_mapUpdate_own _ rfl _ _ _ 54 rfl 3 3 keyed_int Try.underlying54 (plainElem Try.prog 3) w.heap.size k D rfl hown4 (by unfold maxLen; omega) _ _ _ rfl rfl hkey _ [] (plainElem_int Try.underlying3 one_wf) ?_; intro w5 hown5 hgrow5; clear tok4))
        go_roundw
        case rel =>
          refine ⟨k + 1, _, by omega, by go_num, hown5, HP.out 1 (by rw [HNO.out]; rfl), ?_, hgrow5.cell hb4 hne5, (((he.trans hE3).alloc _).grown hgrow4 (fun j ej => by have := ownsRow_from hrow j ej; omega)).grown hgrow5 (by intro j ej; injection ej with ej; omega), by have := hgrow5.size; have := hgrow4.size; rw [World.size_alloc] at this; omega⟩
          rw [HF.out, intCells_app, List.length_append]
          exact row_kept hown' hgrow5 (by omega)
        case measure => simp [intOf]; omega
    · obtain rfl : k = n := by omega
      have hkl : (peersOf l).length ≤ k := by rw [peersOf_length, HL.out.1]; exact Nat.le_refl _
      have htk := List.take_of_length_le hkl
      rw [htk] at hrow HC ⊢
      clear htk
      have hwf : ∀ x ∈ Busy.firsts (peersOf l), (Lit.int .i64 x).wf = true := fun x hx => by
        obtain ⟨e, hel, rfl⟩ := List.mem_map.1 ((Busy.mem_firsts _ _).1 hx)
        exact peer_wf (HL.out.2.2.1 e hel).2.2.1
      have hlen := Busy.firsts_length (peersOf l)
      rw [peersOf_length, HL.out.1] at hlen
      by_cases h0 : Busy.firsts (peersOf l) = []
      · rw [h0] at hrow ⊢
        have hcon := fun fv W => AnyF.slices_SortFunc_none (L := { Try.sortInt with }) op oc fv W
        have hms : ([] : List Int).mergeSort (fun x y => !Busy.lt (peersOf l) y x) = [] := by simp
        have HMS := Lib.hid hms
        have HCON := Lib.hid hcon
        have hl0 : ([] : List Int).length = 0 := rfl
        rw [hl0]
        have H0 := Lib.hid h0
        clear hcon hrow HC hown hbox HL hwf h0 hms hl0
        go_wp2_with (go_at_call 23; refine (HCON.out _ _).mono ?_; rintro e w' ⟨rfl, rfl⟩)
        go_ret
        exact ⟨_, rfl, by rw [H0.out, HMS.out]; exact ⟨op, oc, rfl, by simp, .inl rfl⟩, he⟩
      · rcases hrow.2 with ⟨_, h00⟩ | ⟨g, cap, cur, hv, _, _, _, _, _, _⟩
        · exact absurd (List.length_eq_zero_iff.1 h00) h0
        injection hv with hv1 _ hv2
        subst hv1 hv2
        have hcon := fun W (hE : Ext wr W) => busy_sort g oc (w.heap.size + 1) w.heap.size k (w.heap.size + 2) D (peersOf l) (Busy.firsts (peersOf l)) hwf (by omega) W (rows_ext hrow hE) (hE.cell hbox) (hown.kept (ext_grown hE) (by simp)) HC.out (by omega) (by omega)
        have HR := Lib.hid (ownsRow_from hrow)
        have HE := Lib.hid he
        generalize hM : (Busy.firsts (peersOf l)).mergeSort (fun x y => !Busy.lt (peersOf l) y x) = M at *
        generalize (Busy.firsts (peersOf l)).length = q at *
        have HCON := Lib.hid hcon
        have HMM := Lib.hid hM
        clear hcon hrow HC hown hbox HL hwf h0 hM he
        go_wp2_with (go_at_call 23; refine (HCON.out _ (Ext.refl _)).mono ?_; rintro e w' ⟨rfl, hI, hg⟩)
        go_ret
        exact ⟨_, rfl, by rw [HMM.out]; exact hI, HE.out.grown hg (by intro j ej; injection ej with ej; have := HR.out g rfl; omega)⟩

end Go.Proofs.Ytmdeepdediafbaa
