/- What the document's Add answers where a dot is added. -/
import Derived.Test.YtdgjjlffdfpkcaaRefAddRound
import Derived.Deep.RegionHeld3
namespace Go.Proofs.Ytdgjjlffdfpkcaa
open Go.RowKit

namespace DS
/-- Dots in order. -/
def order (l : List Dot) : List Dot := l.foldl (fun acc x => ins x acc) []
theorem order_snoc (l : List Dot) (x : Dot) : order (l ++ [x]) = ins x (order l) := by unfold order; rw [List.foldl_append]; rfl
theorem order_sorted {l : List Dot} (h : l.Pairwise lt) : ∀ i, i ≤ l.length → order (l.take i) = l.take i := by
  intro i
  induction i with
  | zero => intro _; rfl
  | succ i ih =>
    intro hi
    have hil : i < l.length := by omega
    have e : l.take (i + 1) = l.take i ++ [l[i]] := by rw [List.take_add_one, List.getElem?_eq_getElem hil]; rfl
    rw [e, order_snoc, ih (by omega), ins_end]
    intro x hx
    obtain ⟨j, hj, rfl⟩ := List.mem_iff_getElem.1 hx
    rw [List.length_take] at hj
    rw [List.getElem_take]
    exact List.pairwise_iff_getElem.1 h j i (by omega) hil (by omega)
theorem order_all {l : List Dot} (h : l.Pairwise lt) (d : Dot) : order (l ++ [d]) = ins d l := by
  rw [order_snoc]
  have := order_sorted h l.length (Nat.le_refl _)
  rw [List.take_length] at this
  rw [this]
theorem fold_length (l acc : List Dot) : (l.foldl (fun acc x => ins x acc) acc).length = acc.length + l.length := by
  induction l generalizing acc with
  | nil => rfl
  | cons x l ih => rw [List.foldl_cons, ih, ins_length, List.length_cons]; omega
theorem order_length (l : List Dot) : (order l).length = l.length := by
  unfold order
  rw [fold_length, List.length_nil, Nat.zero_add]
theorem fold_mem (l acc : List Dot) (x : Dot) : x ∈ l.foldl (fun acc x => ins x acc) acc ↔ x ∈ acc ∨ x ∈ l := by
  induction l generalizing acc with
  | nil => simp
  | cons y l ih =>
    rw [List.foldl_cons, ih, mem_ins, List.mem_cons]
    constructor
    · rintro ((h | h) | h)
      · exact .inr (.inl h)
      · exact .inl h
      · exact .inr (.inr h)
    · rintro (h | h | h)
      · exact .inl (.inr h)
      · exact .inl (.inl h)
      · exact .inr h
theorem order_mem (l : List Dot) (x : Dot) : x ∈ order l ↔ x ∈ l := by
  unfold order
  rw [fold_mem]
  simp
end DS

theorem own_empty (w : World) : (w.alloc (.cells #[] 26)).ownsRow w.heap.size 26 2 (.slice (some ⟨w.heap.size, 0, none⟩) 0 0) 0 [] :=
  ⟨rfl, .inr ⟨_, 0, #[], rfl, Nat.le_refl _, heap_alloc_new _ _, Nat.le_refl _, by unfold maxLen; omega, rfl, rfl⟩⟩

theorem own_empty_at (w : World) (X : Nat) (hX : w.heap.size = X) : (w.alloc (.cells #[] 26)).ownsRow X 26 2 (.slice (some ⟨X, 0, none⟩) 0 0) 0 [] := by
  subst hX
  exact own_empty w
theorem DotsAt.grown {W W' : World} {b off k : Nat} {l : List Dot} (h : DotsAt W b off l) (hg : W.grownBy W' (some k)) (hb : b < W.heap.size) (hne : b ≠ k) : DotsAt W' b off l := fun i hi =>
  have e := hg.block b hb (by intro e; injection e with e; exact hne e)
  ⟨(World.cell?_of_block (a := ⟨b, off + i * 2, none⟩) e).trans (h i hi).1, (World.cell?_of_block (a := ⟨b, off + i * 2 + 1, none⟩) e).trans (h i hi).2⟩
theorem one_dot_at (w : World) (d : Dot) (X : Nat) (hX : w.heap.size = X) : DotsAt (w.alloc (.cells #[.int .i64 d.1, .int .i64 d.2] 26)) X 0 [d] := by
  subst hX
  exact fun i hi => by
    obtain rfl : i = 0 := by simpa using hi
    exact ⟨alloc_cell _ _ _ 0, alloc_cell _ _ _ 1⟩
set_option maxRecDepth 100000 in
set_option maxHeartbeats 4000000 in
theorem ref_add_yes (v : Value) (s : DS.S) (d : Dot) (w : World) (h : SetV w v s) (hok : DS.Ok s) (hgd : DS.Good d) (hin : ¬ DS.Has s d) (hm1 : s.base.length ≤ 100) (hm2 : s.extra.length ≤ 150) :
    Calls Try.prog 21 #[v, dotV d] w fun e w' => ∃ v', e = .returned (.tuple #[v', .bool true]) ∧ SetV w' v' (DS.plus s d) ∧ Ext w w' := by
  have hsv := h
  obtain ⟨vb, ve, rfl, hb, he⟩ := h
  unfold dotV
  have HA := Lib.hid (addB w vb ve d)
  have hck := fun w1 (he : Ext w w1) => ref_set_check _ s w1 (hsv.ext he)
  have hha := fun w1 (he : Ext w w1) => ref_set_has _ s d w1 (hsv.ext he)
  have hq0 : DS.check s = 0 := DS.check_ok.2 hok
  have hh0 : DS.has s d = false := by unfold DS.has; simp [hin]
  rw [hq0] at hck
  rw [hh0] at hha
  have HC := Lib.hid hck
  have HH := Lib.hid hha
  have hd0 := fun W => ref_dot_at d W
  rw [show Vec.dotE d = 0 from DS.good_iff.2 hgd] at hd0
  have HD := Lib.hid hd0
  have HBV := Lib.hid hb
  have HEV := Lib.hid he
  obtain ⟨pb, cb, rfl, _⟩ := hb
  obtain ⟨pe, ce, rfl, _⟩ := he
  have HOK := Lib.hid hok
  have HGD := Lib.hid hgd
  have HIN := Lib.hid hin
  clear hck hha hsv hq0 hh0 hd0 hok hgd hin
  generalize hnb : s.base.length = nb at *
  generalize hne : s.extra.length = ne at *
  have HNB := Lib.hid hnb
  have HNE := Lib.hid hne
  clear hnb hne
  have f1 := HA.out.set.c0
  have f2 := HA.out.set.c1
  have f3 := HA.out.dot.c0
  have f4 := HA.out.dot.c1
  obtain ⟨W0, hW0⟩ : ∃ W, addW w (.slice pb nb cb) (.slice pe ne ce) d = W := ⟨_, rfl⟩
  rw [hW0] at HA f1 f2 f3 f4
  go_enter Try.func21, Try.ntmps21
  go_upto_region 1 with fail
  have hWl : ((w.alloc (.cells #[.slice pb nb cb, .slice pe ne ce] 24)).alloc (.cells #[.int .i64 d.1, .int .i64 d.2] 26)).alloc (.cells #[.slice none 0 0, .slice none 0 0] 24) = W0 := hW0
  rw [hWl]
  clear hW0 hWl
  go_wp2_with fail
  refine (HC.out _ HA.out.ext).mono ?_
  rintro e w1 ⟨rfl, g1⟩
  have HA1 := Lib.hid (HA.out.more g1)
  have k3 := HA1.out.dot.c0
  have k4 := HA1.out.dot.c1
  clear g1 f1 f2 f3 f4
  go_wp2_with fail
  refine (HD.out _).mono ?_
  rintro e w2 ⟨rfl, g2⟩
  have HA2 := Lib.hid (HA1.out.more g2)
  have i1 := HA2.out.set.c0
  have i2 := HA2.out.set.c1
  have i3 := HA2.out.dot.c0
  have i4 := HA2.out.dot.c1
  clear g2 k3 k4
  go_wp2_with fail
  refine (HH.out _ HA2.out.ext).mono ?_
  rintro e w3 ⟨rfl, g3⟩
  have HA3 := Lib.hid (HA2.out.more g3)
  have j1 := ((HA3.out.set.ext ((Ext.refl _).alloc (.cells #[] 26)))).c0
  clear g3 i1 i2 i3 i4
  have hbv := HBV.out.ext (HA3.out.ext.alloc (.cells #[] 26))
  obtain ⟨pb', cb', ebv, _, _, hbd⟩ := hbv
  obtain ⟨e1, e2, e3⟩ : pb = pb' ∧ True ∧ cb = cb' := by injection ebv with a b c; exact ⟨a, trivial, c⟩
  subst e1 e3
  have HBD := Lib.hid hbd.2.2.2
  have HOWN := Lib.hid (own_empty w3)
  have HSZ := Lib.hid (World.size_alloc w3 (.cells #[] 26))
  have HXE := Lib.hid ((Ext.refl w3).alloc (.cells #[] 26))
  clear hbd ebv e2
  go_wp2_with (at_builtin; refine append_dots_at 28 30 w3.heap.size _ [] s.base pb cb nb HNB.out.symm rfl rfl HOWN.out HBD.out (by simp) (by rw [HNB.out]; omega) (by rw [HSZ.out]; omega) ?_; intro v5 w5 hown5 hgrow5; obtain ⟨p5, c5, rfl⟩ := row_slice hown5; have hx5 := Lib.hid (ext_grownV HXE.out HOWN.out hgrow5 (Nat.le_refl _)); have HR5 := Lib.hid hown5; clear hown5 hgrow5)
  have hb5 : DotsV w5 (.slice p5 s.base.length c5) s.base := by
    have hbv := HBV.out
    obtain ⟨_, _, _, _, _, hbd⟩ := hbv
    exact row_dots HR5.out hbd.2.2.1 (by rw [HNB.out]; omega)
  rw [HNB.out] at hb5 ⊢
  have hx6 := hx5.out.alloc (.cells #[.slice p5 nb c5, .slice none 0 0] 24)
  have hA6 := HA3.out.more hx6
  have hT6 := Two.new w5 24 (.slice p5 nb c5) (.slice none 0 0)
  have hb6 := hb5.ext ((Ext.refl _).alloc (.cells #[.slice p5 nb c5, .slice none 0 0] 24))
  have hlt6 : w.heap.size + 2 < w5.heap.size := by
    have h1 := HA3.out.res.lt
    have h2 := hx5.out.size
    omega
  generalize hX : w5.heap.size = X at *
  generalize w5.alloc (.cells #[.slice p5 nb c5, .slice none 0 0] 24) = w6 at *
  have HA6 := Lib.hid hA6
  have HT6 := Lib.hid hT6
  have HB6 := Lib.hid hb6
  clear hx6 hA6 hT6 hb6 hb5 HR5 hx5 HXE HSZ HOWN HBD HA3 HA2 HA1 HA HC HD HH j1 HBV hX
  have m1 := HA6.out.set.c1
  have m2 := HA6.out.dot.c0
  have m3 := HA6.out.dot.c1
  have hev := HEV.out.ext HA6.out.ext
  obtain ⟨pe', ce', eev, _, _, hed⟩ := hev
  obtain ⟨e1, e3⟩ : pe = pe' ∧ ce = ce' := by injection eev with a b c; exact ⟨a, c⟩
  subst e1 e3
  have HED := Lib.hid hed.2.2.2
  have HFIT := Lib.hid hed.2.2.1
  clear hed eev
  go_cut [7] from 33 to 39 (fun x W => ∃ p c, x = .slice p (ne + 1) c ∧ DotsV W x (s.extra ++ [d]) ∧ Ext w6 W)
  case first =>
    have xE := (Ext.refl w6).alloc (.cells #[] 26)
    have xB := (Ext.refl w6).alloc (.cells #[.int .i64 d.1, .int .i64 d.2] 26)
    have xEB := xE.alloc (.cells #[.int .i64 d.1, .int .i64 d.2] 26)
    have xBE := xB.alloc (.cells #[] 26)
    have mE1 := xE.cell m1
    have mE2 := xE.cell m2
    have mE3 := xE.cell m3
    have mB1 := xB.cell m1
    have mB2 := xB.cell m2
    have mB3 := xB.cell m3
    have mEB1 := xEB.cell m1
    have mEB2 := xEB.cell m2
    have mEB3 := xEB.cell m3
    have mBE1 := xBE.cell m1
    have mBE2 := xBE.cell m2
    have mBE3 := xBE.cell m3
    refine wp_region_noPanic ?_
    go_region_law (first
      | (refine step_append_dots _ rfl (.tmp 33) (.tmp 35) rfl w6.heap.size _ [] s.extra pe ce ne HNE.out.symm (by simp [Act.eval, Act.put]) (by simp [Act.eval, Act.put]) (row_to (own_empty w6) (Ext.refl _).drew) (HED.out.imp id fun ⟨b, off, hp, ha⟩ => ⟨b, off, hp, ha.ext (((Ext.refl w6).alloc (.cells #[] 26)).drew)⟩) (by simp) (by rw [HNE.out]; omega) (by simp [World.size_alloc]) ?_; intro v7 w7 hown7 hgrow7; have HX7 := Lib.hid (ext_grownV (((Ext.refl w6).alloc (.cells #[] 26)).drew) (row_to (own_empty w6) (Ext.refl _).drew) hgrow7 (Nat.le_refl _)); obtain ⟨p7, c7, rfl⟩ := row_slice hown7; have HR7 : Hid (w7.ownsRow w6.heap.size 26 2 (.slice p7 s.extra.length c7) s.extra.length (dotCells s.extra)) := Lib.hid hown7; have n2 := HX7.out.cell m2; have n3 := HX7.out.cell m3; have tokP : True := trivial; clear hown7 hgrow7; (try simp only [List.nil_append, HNE.out]))
      | (refine step_append_dots _ rfl (.tmp 33) (.tmp 35) rfl w6.heap.size _ [] s.extra pe ce ne HNE.out.symm (by simp [Act.eval, Act.put]) (by simp [Act.eval, Act.put]) (row_to (own_empty w6) ((Ext.refl _).alloc (.cells #[.int .i64 d.1, .int .i64 d.2] 26)).drew) (HED.out.imp id fun ⟨b, off, hp, ha⟩ => ⟨b, off, hp, ha.ext ((((Ext.refl w6).alloc (.cells #[] 26)).alloc (.cells #[.int .i64 d.1, .int .i64 d.2] 26)).drew)⟩) (by simp) (by rw [HNE.out]; omega) (by simp [World.size_alloc]; try omega) ?_; intro v7 w7 hown7 hgrow7; have HX7 := Lib.hid (ext_grownV ((((Ext.refl w6).alloc (.cells #[] 26)).alloc (.cells #[.int .i64 d.1, .int .i64 d.2] 26)).drew) (row_to (own_empty w6) ((Ext.refl _).alloc (.cells #[.int .i64 d.1, .int .i64 d.2] 26)).drew) hgrow7 (Nat.le_refl _)); have HB7 : Hid (DotsAt w7 (w6.heap.size + 1) 0 [d]) := Lib.hid (DotsAt.grown (k := w6.heap.size) ((one_dot_at (w6.alloc (.cells #[] 26)) d (w6.heap.size + 1) (World.size_alloc _ _)).ext (Ext.refl _).drew) hgrow7 (by show w6.heap.size + 1 < ((w6.alloc (.cells #[] 26)).alloc (.cells #[.int .i64 d.1, .int .i64 d.2] 26)).heap.size; rw [World.size_alloc, World.size_alloc]; omega) (by omega)); have tokQ : True := trivial; obtain ⟨p7, c7, rfl⟩ := row_slice hown7; have HR7 : Hid (w7.ownsRow w6.heap.size 26 2 (.slice p7 s.extra.length c7) s.extra.length (dotCells s.extra)) := Lib.hid hown7; have n2 := HX7.out.cell m2; have n3 := HX7.out.cell m3; clear hown7 hgrow7; (try simp only [List.nil_append, HNE.out]))
      | (refine step_append_dots _ rfl (.tmp 33) (.tmp 35) rfl w6.heap.size _ [] s.extra pe ce ne HNE.out.symm (by simp [Act.eval, Act.put]) (by simp [Act.eval, Act.put]) (row_base (row_to (own_empty_at (w6.alloc (.cells #[.int .i64 d.1, .int .i64 d.2] 26)) (w6.heap.size + 1) (World.size_alloc _ _)) (Ext.refl _).drew) (Nat.le_succ _)) (HED.out.imp id fun ⟨b, off, hp, ha⟩ => ⟨b, off, hp, ha.ext ((((Ext.refl w6).alloc (.cells #[.int .i64 d.1, .int .i64 d.2] 26)).alloc (.cells #[] 26)).drew)⟩) (by simp) (by rw [HNE.out]; omega) (by simp [World.size_alloc]; try omega) ?_; intro v7 w7 hown7 hgrow7; have HX7 := Lib.hid (ext_grownV ((((Ext.refl w6).alloc (.cells #[.int .i64 d.1, .int .i64 d.2] 26)).alloc (.cells #[] 26)).drew) (row_base (row_to (own_empty_at (w6.alloc (.cells #[.int .i64 d.1, .int .i64 d.2] 26)) (w6.heap.size + 1) (World.size_alloc _ _)) (Ext.refl _).drew) (Nat.le_succ _)) hgrow7 (Nat.le_refl _)); have HB7 : Hid (DotsAt w7 w6.heap.size 0 [d]) := Lib.hid (DotsAt.grown (k := w6.heap.size + 1) ((one_dot_at w6 d w6.heap.size rfl).ext ((Ext.refl _).alloc (.cells #[] 26)).drew) hgrow7 (by show w6.heap.size < ((w6.alloc (.cells #[.int .i64 d.1, .int .i64 d.2] 26)).alloc (.cells #[] 26)).heap.size; rw [World.size_alloc, World.size_alloc]; omega) (by omega)); have tokR : True := trivial; obtain ⟨p7, c7, rfl⟩ := row_slice hown7; have HR7 : Hid (w7.ownsRow w6.heap.size 26 2 (.slice p7 s.extra.length c7) s.extra.length (dotCells s.extra)) := Lib.hid hown7; have n2 := HX7.out.cell m2; have n3 := HX7.out.cell m3; clear hown7 hgrow7; (try simp only [List.nil_append, HNE.out]))
      | (have _t := tokP; refine step_append_dots _ rfl (.tmp 36) (.tmp 38) rfl w6.heap.size _ s.extra [d] (some ⟨w7.heap.size, 0, none⟩) 1 1 rfl (by simp [Act.eval, Act.put, HNE.out]) (by simp [Act.eval, Act.put]) (row_to HR7.out ((Ext.refl _).alloc _)) (.inr ⟨_, 0, rfl, one_dot w7 d⟩) (by rw [HNE.out]; omega) (by simp) (by have h1 := HX7.out.size; simp [World.size_alloc]; omega) ?_; intro v9 w9 hown9 hgrow9; obtain ⟨p9, c9, rfl⟩ := row_slice hown9; have HX9 := Lib.hid (ext_grownV (HX7.out.alloc _) (row_to HR7.out ((Ext.refl _).alloc _)) hgrow9 (Nat.le_refl _)); have HR9 := Lib.hid hown9; clear hown9 hgrow9)
      | (have _t := tokQ; refine step_append_dots _ rfl (.tmp 36) (.tmp 38) rfl w6.heap.size _ s.extra [d] (some ⟨w6.heap.size + 1, 0, none⟩) 1 1 rfl (by simp [Act.eval, Act.put, HNE.out]) (by simp [Act.eval, Act.put]) HR7.out (.inr ⟨_, 0, rfl, HB7.out⟩) (by rw [HNE.out]; omega) (by simp) HX7.out.size ?_; intro v9 w9 hown9 hgrow9; obtain ⟨p9, c9, rfl⟩ := row_slice hown9; have HX9 := Lib.hid (ext_grownV HX7.out HR7.out hgrow9 (Nat.le_refl _)); have HR9 := Lib.hid hown9; clear hown9 hgrow9)
      | (have _t := tokR; refine step_append_dots _ rfl (.tmp 36) (.tmp 38) rfl w6.heap.size _ s.extra [d] (some ⟨w6.heap.size, 0, none⟩) 1 1 rfl (by simp [Act.eval, Act.put, HNE.out]) (by simp [Act.eval, Act.put]) HR7.out (.inr ⟨_, 0, rfl, HB7.out⟩) (by rw [HNE.out]; omega) (by simp) HX7.out.size ?_; intro v9 w9 hown9 hgrow9; obtain ⟨p9, c9, rfl⟩ := row_slice hown9; have HX9 := Lib.hid (ext_grownV HX7.out HR7.out hgrow9 (Nat.le_refl _)); have HR9 := Lib.hid hown9; clear hown9 hgrow9))
    all_goals
      refine NoPanic.normal ?_
      go_wp2_with fail
      go_meet
      have hl9 : (s.extra ++ [d]).length = ne + 1 := by rw [List.length_append, HNE.out]; rfl
      have h9 := row_dots HR9.out (fun y hy => by
        rcases List.mem_append.1 hy with h | h
        · exact HFIT.out y h
        · rw [List.mem_singleton.1 h]; exact HGD.out.fit) (by rw [hl9]; omega)
      rw [hl9] at h9
      exact ⟨p9, c9, by rw [HNE.out], by rw [HNE.out]; exact h9, HX9.out⟩
  case rest =>
  obtain ⟨p8, c8, rfl, hall, hx8⟩ := hcut
  have HAL := Lib.hid hall
  have hl8 : (s.extra ++ [d]).length = ne + 1 := by rw [List.length_append, HNE.out]; rfl
  have hgood : ∀ y ∈ s.extra ++ [d], DS.Good y := fun y hy => by
    rcases List.mem_append.1 hy with h | h
    · exact DS.Has.good HOK.out (.inr h)
    · rw [List.mem_singleton.1 h]; exact HGD.out
  have hord : DS.order (s.extra ++ [d]) = DS.ins d s.extra := DS.order_all HOK.out.sorted d
  have HORD := Lib.hid hord
  have HSORT : Hid (∀ k, k ≤ ne → (DS.order ((s.extra ++ [d]).take k)).Pairwise DS.lt) := Lib.hid (fun k hk => by
    rw [List.take_append_of_le_length (by rw [HNE.out]; exact hk), DS.order_sorted HOK.out.sorted k (by rw [HNE.out]; exact hk)]
    exact HOK.out.sorted.sublist (List.take_sublist _ _))
  have HGOOD := Lib.hid hgood
  have HL8 := Lib.hid hl8
  have HA8 := Lib.hid (HA6.out.more hx8)
  have HT8 := Lib.hid (HT6.out.ext hx8)
  have HB8 := Lib.hid (HB6.out.ext hx8)
  clear hall hl8 hgood hord hx8 HA6 HT6 HB6 m1 m2 m3 HED HEV HFIT
  generalize hall2 : s.extra ++ [d] = all at *
  clear hall2
  go_wp2
  go_loopw [8] (fun i W => ∃ (k : Nat) (pe2 : Option Addr) (ce2 : Nat), k ≤ ne + 1 ∧ i = .int .i64 k ∧ Hid (AddB w W (.slice pb nb cb) (.slice pe ne ce) d) ∧ Hid (Two W X 24 (.slice p5 nb c5) (.slice pe2 k ce2)) ∧ Hid (DotsV W (.slice p5 nb c5) s.base) ∧ Hid (DotsV W (.slice p8 (ne + 1) c8) all) ∧ Hid (DotsV W (.slice pe2 k ce2) (DS.order (all.take k)))) (fun i _ => ne + 1 - (intOf i).toNat)
  case atStart => exact ⟨0, none, 0, by omega, rfl, HA8, HT8, HB8, HAL, Lib.hid ⟨none, 0, rfl, Nat.le_refl _, Nat.zero_le _, rfl, Nat.zero_le _, (fun x hx => by cases hx), .inl rfl⟩⟩
  case round =>
    clear HA8 HT8 HB8 HAL
    obtain ⟨k, pe2, ce2, hk, rfl, HA, HT, HB, HAL, HO⟩ := hrel
    by_cases hlt : k < ne + 1
    · have hkl : k < all.length := by rw [HL8.out]; exact hlt
      have hOl : (DS.order (all.take k)).length = k := by rw [DS.order_length, List.length_take]; omega
      have hnx : DS.order (all.take (k + 1)) = DS.ins all[k] (DS.order (all.take k)) := by
        rw [show all.take (k + 1) = all.take k ++ [all[k]] by rw [List.take_add_one, List.getElem?_eq_getElem hkl]; rfl, DS.order_snoc]
      have hfO : ∀ y ∈ DS.order (all.take k), DS.Good y := fun y hy => HGOOD.out y (List.mem_of_mem_take ((DS.order_mem _ _).1 hy))
      have hgx : DS.Good all[k] := HGOOD.out _ (List.getElem_mem hkl)
      have hxat : ∀ W, Ext wr W → ∃ b off, p8 = some ⟨b, off, none⟩ ∧ W.cell? ⟨b, off + k * 2, none⟩ = some (.int .i64 all[k].1) ∧ W.cell? ⟨b, off + k * 2 + 1, none⟩ = some (.int .i64 all[k].2) := fun W hW => by
        obtain ⟨_, _, hv, _, _, _, _, _, h4⟩ := HAL.out
        injection hv with e1 e2 e3
        subst e1
        rcases h4 with h | ⟨b, off, hp, ha⟩
        · omega
        · exact ⟨b, off, hp, hW.cell (ha k hkl).1, hW.cell (ha k hkl).2⟩
      have hso := HSORT.out k (by omega)
      generalize all[k] = x at *
      generalize hOe : DS.order (all.take k) = O at *
      clear hOe
      have HNX := Lib.hid hnx
      have HSO := Lib.hid hso
      have HFO := Lib.hid hfO
      have HGX := Lib.hid hgx
      have HOL := Lib.hid hOl
      have HXA := Lib.hid hxat
      clear hnx hfO hgx hOl hxat hkl hso
      obtain ⟨pe3, ce3, hpe, hO2, hO3, _, _, _, hO4⟩ := HO.out
      obtain ⟨e1, e2, e3⟩ : pe2 = pe3 ∧ k = O.length ∧ ce2 = ce3 := by injection hpe with a b c; exact ⟨a, b, c⟩
      subst e1 e3
      have HO4 := Lib.hid hO4
      have hkc : k ≤ ce2 := by omega
      clear hpe hO2 hO4 e2
      generalize wr = wo at *
      go_wp2
      go_loopw [9] (fun v W => ∃ (j : Nat), j ≤ k ∧ v = .int .i64 j ∧ Hid (∀ m (h : m < O.length), m < j → DS.lt O[m] x) ∧ Ext wo W) (fun v _ => k - (intOf v).toNat)
      case atStart => exact ⟨0, by omega, rfl, Lib.hid (fun m h1 h2 => absurd h2 (Nat.not_lt_zero _)), Ext.refl _⟩
      case round =>
        obtain ⟨j, hj, rfl, HLT, hx⟩ := hrel
        have hT2 := HT.out.ext hx
        have c1 := hT2.c1
        have e1 := cell_ext c1
        by_cases hjk : j < k
        · have hjl : j < O.length := by rw [HOL.out]; exact hjk
          obtain ⟨b8, o8, rfl, y1, y2⟩ := HXA.out wr hx
          obtain ⟨bo, oo, rfl, hoa⟩ : ∃ b off, pe2 = some ⟨b, off, none⟩ ∧ DotsAt wr b off O := by
            rcases HO4.out with h | ⟨b, off, hp, ha⟩
            · omega
            · exact ⟨b, off, hp, ha.ext hx⟩
          have z1 := cell_ext (hoa j hjl).1
          have z2 := cell_ext (hoa j hjl).2
          have y1 := cell_ext y1
          have y2 := cell_ext y2
          have hlast : decide (DS.lt O[j] x) = true → ∀ m (h : m < O.length), m < j + 1 → DS.lt O[m] x := fun hd m h hm => by
            by_cases hmj : m < j
            · exact HLT.out m h hmj
            · have : m = j := by omega
              subst this
              exact of_decide_eq_true hd
          have hstop : decide (DS.lt O[j] x) = false → ∀ m (h : m < O.length), j ≤ m → ¬ DS.lt O[m] x := fun hd m h hm hl => by
            have hn : ¬ DS.lt O[j] x := of_decide_eq_false hd
            by_cases hmj : m = j
            · subst hmj; exact hn hl
            · exact hn (DS.lt_trans (List.pairwise_iff_getElem.1 HSO.out j m hjl h (by omega)) hl)
          have hah := fun p : ExtOf wr => ref_ahead O[j] x p.to
          generalize O[j] = o at *
          obtain ⟨bb, hbb⟩ : ∃ bb, decide (DS.lt o x) = bb := ⟨_, rfl⟩
          rw [hbb] at hlast hstop hah
          have HAH := Lib.hid hah
          have HLA := Lib.hid hlast
          have HST := Lib.hid hstop
          have HX := Lib.hid hx
          have hji : (j : Int) < (k : Int) := by omega
          clear hlast hstop hah hoa hx hT2 c1 hbb
          go_wp2_with fail
          refine wp_region_quiet_ext (by kernel_rfl) (by kernel_rfl) ?_
          repeat (go_big_quiet_step ((first
            | (go_at_call 32; exact calls_ext (HAH.out _)))))
          refine wpQuiet_nil ?_
          intro w4 g4
          cases bb with
          | true =>
            go_wp2_with fail
            go_roundw
            case rel => exact ⟨j + 1, by omega, by go_num, Lib.hid (HLA.out rfl), HX.out.trans g4⟩
            case measure => simp [intOf]; omega
          | false =>
            have HXW := Lib.hid (HX.out.trans g4)
            have HSTOP := Lib.hid (HST.out rfl)
            have HDS : Hid (∀ W, Ext wo W → (O.drop j).length = 0 ∨ ∃ b off, (some ⟨bo, oo + j * 2, none⟩ : Option Addr) = some ⟨b, off, none⟩ ∧ DotsAt W b off (O.drop j)) := Lib.hid (fun W hW => by
              rcases HO4.out with h | ⟨b, off, hp, ha⟩
              · omega
              · cases hp
                exact .inr ⟨_, _, rfl, dotsAt_drop (ha.ext hW) j⟩)
            clear HLA HST HX HAH g4 z1 z2 y1 y2 e1
            have hsz0 := HXW.out.size
            have hTW := HT.out.ext HXW.out
            have c1 := (hTW.ext ((Ext.refl w4).alloc (.cells #[] 26))).c1
            have hjc : (j : Int) ≤ (ce2 : Int) := by omega
            have hj0 : (0 : Int) ≤ (j : Int) := by omega
            have HTK : Hid ((O.take j).length = j) := Lib.hid (by rw [List.length_take, HOL.out]; omega)
            have hsrc : (O.take j).length = 0 ∨ ∃ b off, (some ⟨bo, oo, none⟩ : Option Addr) = some ⟨b, off, none⟩ ∧ DotsAt (w4.alloc (.cells #[] 26)) b off (O.take j) := by
              rcases HO4.out with h | ⟨b, off, hp, ha⟩
              · exact .inl (by rw [HTK.out]; have := HOL.out; omega)
              · exact .inr ⟨b, off, hp, fun i hi => by
                  rw [List.getElem_take]
                  exact (ha.ext (HXW.out.alloc _)) i (by rw [HTK.out] at hi; have := HOL.out; omega)⟩
            have HSRC := Lib.hid hsrc
            have HOWN := Lib.hid (own_empty w4)
            have HSZ := Lib.hid (World.size_alloc w4 (.cells #[] 26))
            have HXE := Lib.hid (HXW.out.alloc (.cells #[] 26))
            clear hsrc hTW hsz0
            have HDL : Hid ((O.drop j).length = (k - j)) := Lib.hid (by rw [List.length_drop, HOL.out]; try omega)
            have HIN2 : Hid ((O.take j ++ [x]) ++ O.drop j = DS.ins x O) := Lib.hid (by rw [DS.ins_at x O j (by have := HOL.out; omega) HLT.out HSTOP.out, List.append_assoc]; rfl)
            have HL3 : Hid ((DS.ins x O).length = k + 1) := Lib.hid (by rw [DS.ins_length, HOL.out])
            have HL2 : Hid ((O.take j ++ [x]).length = j + 1) := Lib.hid (by rw [List.length_append, HTK.out]; rfl)
            go_wp2_with (at_builtin; first
              | (refine append_dots_at 65 69 w4.heap.size _ [] (O.take j) (some ⟨bo, oo, none⟩ : Option Addr) ce2 j HTK.out.symm rfl rfl HOWN.out HSRC.out (by simp) (by rw [HTK.out]; omega) (by rw [HSZ.out]; omega) ?_; intro v7 w7 hown7 hgrow7; have HX7 := Lib.hid (ext_grownV HXE.out HOWN.out hgrow7 HXW.out.size); have HS7 := Lib.hid (show w4.heap.size ≤ w7.heap.size by have h1 := hgrow7.size; have h2 := HSZ.out; omega); rw [List.nil_append, HTK.out] at hown7; obtain ⟨p7, c7, rfl⟩ := row_slice hown7; have HR7 : Hid (w7.ownsRow w4.heap.size 26 2 (.slice p7 j c7) (O.take j).length (dotCells (O.take j))) := Lib.hid (by rw [HTK.out]; exact hown7); clear hown7 hgrow7; obtain ⟨b7, o7, hp7, y3, y4⟩ := HXA.out w7 HX7.out; cases hp7; have tok7 : True := trivial)
              | (have _t := tok7; refine append_dots_at 71 76 w4.heap.size _ (O.take j) [x] (some ⟨w7.heap.size, 0, none⟩) 1 1 rfl rfl rfl (row_to HR7.out ((Ext.refl _).alloc (.cells #[.int .i64 x.1, .int .i64 x.2] 26))) (.inr ⟨_, 0, rfl, one_dot w7 x⟩) (by rw [HTK.out]; omega) (by simp) (by have h1 := HS7.out; have h2 := World.size_alloc w7 (.cells #[.int .i64 x.1, .int .i64 x.2] 26); omega) ?_; intro v8 w8 hown8 hgrow8; have HX8 := Lib.hid (ext_grownV (HX7.out.alloc (.cells #[.int .i64 x.1, .int .i64 x.2] 26)) (row_to HR7.out ((Ext.refl _).alloc (.cells #[.int .i64 x.1, .int .i64 x.2] 26))) hgrow8 HXW.out.size); have HS8 := Lib.hid (show w4.heap.size ≤ w8.heap.size by have h1 := hgrow8.size; have h2 := HS7.out; have h3 := World.size_alloc w7 (.cells #[.int .i64 x.1, .int .i64 x.2] 26); omega); rw [HL2.out] at hown8; obtain ⟨p9, c9, rfl⟩ := row_slice hown8; have HR8 : Hid (w8.ownsRow w4.heap.size 26 2 (.slice p9 (j + 1) c9) (O.take j ++ [x]).length (dotCells (O.take j ++ [x]))) := Lib.hid (by rw [HL2.out]; exact hown8); clear hown8 hgrow8; have c2 := (HT.out.ext HX8.out).c1; have tok8 : True := trivial)
              | (have _t := tok8; refine append_dots_at 78 82 w4.heap.size _ (O.take j ++ [x]) (O.drop j) (some ⟨bo, oo + j * 2, none⟩) (ce2 - j) (k - j) HDL.out.symm rfl rfl HR8.out (HDS.out w8 HX8.out) (by rw [HL2.out]; omega) (by rw [HDL.out]; omega) HS8.out ?_; intro v9 w9 hown9 hgrow9; have HX9 := Lib.hid (ext_grownV HX8.out HR8.out hgrow9 HXW.out.size); rw [HIN2.out, HL3.out] at hown9; obtain ⟨p10, c10, rfl⟩ := row_slice hown9; have HR9 := Lib.hid hown9; clear hown9 hgrow9; have c3 := (HT.out.ext HX9.out).c1; have c4 := (HT.out.ext HX9.out).f1; have tok9 : True := trivial))
            go_roundw
            case rel =>
              have hg := grown_setCell w9 X 1 (.slice p10 (k + 1) c10)
              have hT9 := HT.out.ext HX9.out
              have hd9 : DotsV w9 (.slice p10 (k + 1) c10) (DS.order (all.take (k + 1))) := by
                rw [HNX.out]
                have h9 := HR9.out
                have := row_dots (l := DS.ins x O) (by rw [HL3.out]; exact h9) (fun y hy => by
                  rcases (DS.mem_ins x y O).1 hy with h | h
                  · rw [h]; exact HGX.out.fit
                  · exact (HFO.out y h).fit) (by rw [HL3.out]; omega)
                exact this
              exact ⟨k + 1, p10, c10, by omega, by go_num, Lib.hid ((HA.out.more HX9.out).box hg hlt6), Lib.hid (hT9.set1 _), Lib.hid ((HB.out.ext HX9.out).box hT9 hg), Lib.hid ((HAL.out.ext HX9.out).box hT9 hg), Lib.hid (hd9.box hT9 hg)⟩
            case measure => simp [intOf]; omega
        · obtain rfl : j = k := by omega
          have HXW := Lib.hid hx
          have HSTOP : Hid (∀ m (h : m < O.length), j ≤ m → ¬ DS.lt O[m] x) := Lib.hid (fun m h hm => absurd h (by have := HOL.out; omega))
          clear hx hT2 c1
          go_wp2_with fail
          refine wp_region_quiet_ext (by kernel_rfl) (by kernel_rfl) ?_
          repeat (go_big_quiet_step ((first | fail)))
          refine wpQuiet_nil ?_
          intro w4 g4
          have HXW := Lib.hid (HXW.out.trans g4)
          clear g4 e1
          have hsz0 := HXW.out.size
          have hTW := HT.out.ext HXW.out
          have c1 := (hTW.ext ((Ext.refl w4).alloc (.cells #[] 26))).c1
          have hjc : (j : Int) ≤ (ce2 : Int) := by omega
          have hj0 : (0 : Int) ≤ (j : Int) := by omega
          have HTK : Hid ((O.take j).length = j) := Lib.hid (by rw [List.length_take, HOL.out]; omega)
          have hsrc : (O.take j).length = 0 ∨ ∃ b off, pe2 = some ⟨b, off, none⟩ ∧ DotsAt (w4.alloc (.cells #[] 26)) b off (O.take j) := by
            rcases HO4.out with h | ⟨b, off, hp, ha⟩
            · exact .inl (by rw [HTK.out]; have := HOL.out; omega)
            · exact .inr ⟨b, off, hp, fun i hi => by
                rw [List.getElem_take]
                exact (ha.ext (HXW.out.alloc _)) i (by rw [HTK.out] at hi; have := HOL.out; omega)⟩
          have HSRC := Lib.hid hsrc
          have HOWN := Lib.hid (own_empty w4)
          have HSZ := Lib.hid (World.size_alloc w4 (.cells #[] 26))
          have HXE := Lib.hid (HXW.out.alloc (.cells #[] 26))
          clear hsrc hTW hsz0
          have HDL : Hid ((O.drop j).length = 0) := Lib.hid (by rw [List.length_drop, HOL.out]; try omega)
          have HIN2 : Hid ((O.take j ++ [x]) ++ O.drop j = DS.ins x O) := Lib.hid (by rw [DS.ins_at x O j (by have := HOL.out; omega) HLT.out HSTOP.out, List.append_assoc]; rfl)
          have HL3 : Hid ((DS.ins x O).length = j + 1) := Lib.hid (by rw [DS.ins_length, HOL.out])
          have HL2 : Hid ((O.take j ++ [x]).length = j + 1) := Lib.hid (by rw [List.length_append, HTK.out]; rfl)
          go_wp2_with (at_builtin; first
            | (refine append_dots_at 65 69 w4.heap.size _ [] (O.take j) pe2 ce2 j HTK.out.symm rfl rfl HOWN.out HSRC.out (by simp) (by rw [HTK.out]; omega) (by rw [HSZ.out]; omega) ?_; intro v7 w7 hown7 hgrow7; have HX7 := Lib.hid (ext_grownV HXE.out HOWN.out hgrow7 HXW.out.size); have HS7 := Lib.hid (show w4.heap.size ≤ w7.heap.size by have h1 := hgrow7.size; have h2 := HSZ.out; omega); rw [List.nil_append, HTK.out] at hown7; obtain ⟨p7, c7, rfl⟩ := row_slice hown7; have HR7 : Hid (w7.ownsRow w4.heap.size 26 2 (.slice p7 j c7) (O.take j).length (dotCells (O.take j))) := Lib.hid (by rw [HTK.out]; exact hown7); clear hown7 hgrow7; obtain ⟨b7, o7, hp7, y3, y4⟩ := HXA.out w7 HX7.out; cases hp7; have tok7 : True := trivial)
            | (have _t := tok7; refine append_dots_at 71 76 w4.heap.size _ (O.take j) [x] (some ⟨w7.heap.size, 0, none⟩) 1 1 rfl rfl rfl (row_to HR7.out ((Ext.refl _).alloc (.cells #[.int .i64 x.1, .int .i64 x.2] 26))) (.inr ⟨_, 0, rfl, one_dot w7 x⟩) (by rw [HTK.out]; omega) (by simp) (by have h1 := HS7.out; have h2 := World.size_alloc w7 (.cells #[.int .i64 x.1, .int .i64 x.2] 26); omega) ?_; intro v8 w8 hown8 hgrow8; have HX8 := Lib.hid (ext_grownV (HX7.out.alloc (.cells #[.int .i64 x.1, .int .i64 x.2] 26)) (row_to HR7.out ((Ext.refl _).alloc (.cells #[.int .i64 x.1, .int .i64 x.2] 26))) hgrow8 HXW.out.size); have HS8 := Lib.hid (show w4.heap.size ≤ w8.heap.size by have h1 := hgrow8.size; have h2 := HS7.out; have h3 := World.size_alloc w7 (.cells #[.int .i64 x.1, .int .i64 x.2] 26); omega); rw [HL2.out] at hown8; obtain ⟨p9, c9, rfl⟩ := row_slice hown8; have HR8 : Hid (w8.ownsRow w4.heap.size 26 2 (.slice p9 (j + 1) c9) (O.take j ++ [x]).length (dotCells (O.take j ++ [x]))) := Lib.hid (by rw [HL2.out]; exact hown8); clear hown8 hgrow8; have c2 := (HT.out.ext HX8.out).c1; have tok8 : True := trivial)
            | (have _t := tok8; refine append_dots_at 78 82 w4.heap.size _ (O.take j ++ [x]) (O.drop j) _ (ce2 - j) 0 HDL.out.symm rfl rfl HR8.out (.inl HDL.out) (by rw [HL2.out]; omega) (by rw [HDL.out]; omega) HS8.out ?_; intro v9 w9 hown9 hgrow9; have HX9 := Lib.hid (ext_grownV HX8.out HR8.out hgrow9 HXW.out.size); rw [HIN2.out, HL3.out] at hown9; obtain ⟨p10, c10, rfl⟩ := row_slice hown9; have HR9 := Lib.hid hown9; clear hown9 hgrow9; have c3 := (HT.out.ext HX9.out).c1; have c4 := (HT.out.ext HX9.out).f1; have tok9 : True := trivial))
          go_roundw
          case rel =>
            have hg := grown_setCell w9 X 1 (.slice p10 (j + 1) c10)
            have hT9 := HT.out.ext HX9.out
            have hd9 : DotsV w9 (.slice p10 (j + 1) c10) (DS.order (all.take (j + 1))) := by
              rw [HNX.out]
              have h9 := HR9.out
              have := row_dots (l := DS.ins x O) (by rw [HL3.out]; exact h9) (fun y hy => by
                rcases (DS.mem_ins x y O).1 hy with h | h
                · rw [h]; exact HGX.out.fit
                · exact (HFO.out y h).fit) (by rw [HL3.out]; omega)
              exact this
            exact ⟨j + 1, p10, c10, by omega, by go_num, Lib.hid ((HA.out.more HX9.out).box hg hlt6), Lib.hid (hT9.set1 _), Lib.hid ((HB.out.ext HX9.out).box hT9 hg), Lib.hid ((HAL.out.ext HX9.out).box hT9 hg), Lib.hid (hd9.box hT9 hg)⟩
          case measure => simp [intOf]; omega
    · obtain rfl : k = ne + 1 := by omega
      have hfull : all.take (ne + 1) = all := List.take_of_length_le (by rw [HL8.out]; exact Nat.le_refl _)
      have hO := HO.out
      rw [hfull, HORD.out] at hO
      have hsem := DS.plus_semi HOK.out HGD.out HIN.out
      have hdone : DS.done d.1 ⟨s.base, DS.ins d s.extra⟩ = DS.plus s d := rfl
      have HO2 := Lib.hid hO
      have HSEM := Lib.hid hsem
      have HDONE := Lib.hid hdone
      have hbn : nb = s.base.length := HNB.out.symm
      have hen : ne + 1 = (DS.ins d s.extra).length := by rw [DS.ins_length, HNE.out]
      have HEN := Lib.hid hen
      have HBN := Lib.hid hbn
      clear hfull hO hsem hdone hen hbn HO HGOOD HSORT HAL
      go_wp2
      go_loopw [] (fun W => ∃ (T : DS.S) (p1 p2 : Option Addr) (c1 c2 n1 n2 : Nat), Hid (n1 = T.base.length ∧ n2 = T.extra.length) ∧ n2 ≤ 200 ∧ Hid (DS.Semi d.1 T) ∧ Hid (DS.done d.1 T = DS.plus s d) ∧ Hid (AddB w W (.slice pb nb cb) (.slice pe ne ce) d) ∧ Hid (Two W X 24 (.slice p1 n1 c1) (.slice p2 n2 c2)) ∧ Hid (DotsV W (.slice p1 n1 c1) T.base) ∧ Hid (DotsV W (.slice p2 n2 c2) T.extra)) (fun W => match W.cell? ⟨X, 1, none⟩ with | some (.slice _ n _) => n | _ => 0)
      case atStart => exact ⟨⟨s.base, DS.ins d s.extra⟩, p5, pe2, c5, ce2, nb, ne + 1, Lib.hid ⟨HBN.out, HEN.out⟩, by omega, HSEM, HDONE, HA, HT, HB, HO2⟩
      case round =>
        clear HA HT HB HO2 HSEM HDONE HEN HBN
        obtain ⟨T, p1, p2, c1, c2, n1, n2, HNN, hn2, HSEM, HDONE, HA, HT, HB, HE⟩ := hrel
        refine add_turn (w.heap.size + 1) (w.heap.size + 1 + 1) X pb pe nb cb ne ce d s T p1 p2 c1 c2 n1 n2 (Lib.hid rfl) (Lib.hid rfl) hlt6 HNN hn2 HSEM HDONE HA HT HB HE _ _ _ _ _ _ _ _ _ _ _ _ _ _ _ _ _ _ _ _ _ _ _ _ _ _ _ _ _ _ _ _ _ _ _ _ _ _ _ _ _ _ _ _ _ _ _ _ _ _ _ _ _ _ _ _ _ _ _ _ _ _ _ _ _ _ _ _ _ _ _ _ _ _ _ _ _ _ _ _ _ _ _ _ _ _ _ _ _ _ _ _ _ _ _ _ _ _ _ _ _ _ _ _ _ _ _ _ _ _ _ _ _ _ _ _ _ _ _ _ _ _ _ _ _ _ _ ?_ ?_ _ (by rfl)
        · refine Lib.hid ?_
          intro W T2 q1 q2 e1 e2 m1 m2 v11 v12 v13 v85 v86 v87 v88 v89 v90 v91 v92 v93 v94 v95 v96 v97 v98 v99 v100 v101 v102 v103 v104 v105 v106 v107 v108 v109 v110 v111 v112 v113 v114 v115 v116 v117 v118 v119 v120 v121 v122 v123 v124 v125 v126 v127 v128 k1 hlt2 k2 k3 k4 k5 k6 k7
          have z0 := HT.out.c1
          have z1 := k5.out.c1
          refine ⟨⟨u5, v11, v12, v13, v85, v86, v87, v88, v89, v90, v91, v92, v93, v94, v95, v96, v97, v98, v99, v100, v101, v102, v103, v104, v105, v106, v107, v108, v109, v110, v111, v112, v113, v114, v115, v116, v117, v118, v119, v120, v121, v122, v123, v124, v125, v126, v127, v128, ⟨T2, q1, q2, e1, e2, m1, m2, k1, by omega, k2, k3, k4, k5, k6, k7⟩, rfl⟩, ?_⟩
          rw [z0, z1]
          exact hlt2
        · refine Lib.hid ?_
          intro W a b v11 v85 v86 v87 v88 v89 v90 v91 v92 v93 v94 v95 v96 v97 v98 v99 v100 v101 v102 v103 v104 v105 v106 v107 v108 v109 v110 v111 v112 v113 v114 v115 v116 v117 v118 v119 v120 v121 v122 v123 v124 v125 v126 v127 v128 k1 k2 k3
          simp only [Exit.then, Exit.inBlock]
          refine bodyPost_ret (results_row_tmp rfl _ _ (w.heap.size + 1 + 1) _ _ _ _ rfl k1 Try.underlying24 rfl (by kernel_rfl)) rfl ?_
          exact ⟨_, rfl, k2, k3⟩
end Go.Proofs.Ytdgjjlffdfpkcaa
