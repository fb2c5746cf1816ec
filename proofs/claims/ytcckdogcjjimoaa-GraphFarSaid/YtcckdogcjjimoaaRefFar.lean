/- What the document's Far and Wide answer. -/
import Derived.Test.YtcckdogcjjimoaaGraphAsk
import Derived.Test.YtcckdogcjjimoaaGraphDoc
namespace Go.Proofs.Ytcckdogcjjimoaa
open Go.RowKit

namespace GR
/-- Who is reached by one round more, edge by edge. -/
def nextF (f : Nat → Bool) (l : List Ed) (v : Nat) : Bool := f v || l.any fun e => (f e.1.toNat && decide (e.2 = v)) || (f e.2.toNat && decide (e.1 = v))
theorem nextF_nil (f : Nat → Bool) : nextF f [] = f := by
  funext v
  unfold nextF
  rw [List.any_nil, Bool.or_false]
theorem nextF_snoc (f : Nat → Bool) (l : List Ed) (d : Ed) (v : Nat) : nextF f (l ++ [d]) v = ((nextF f l v || (f d.1.toNat && decide (d.2 = v))) || (f d.2.toNat && decide (d.1 = v))) := by
  unfold nextF
  rw [List.any_append, List.any_cons, List.any_nil, Bool.or_false, Bool.or_assoc, Bool.or_assoc]
theorem nextF_step (f : Nat → Bool) (l : List Ed) (A C : Nat) (bA bC : Bool) (hA : f A = bA) (hC : f C = bC) (i : Nat) : nextF f (l ++ [((A : Int), (C : Int))]) i = ((nextF f l i || (bA && decide (i = C))) || (bC && decide (i = A))) := by
  rw [nextF_snoc, Int.toNat_natCast, Int.toNat_natCast, hA, hC]
  have e1 : decide ((C : Int) = (i : Int)) = decide (i = C) := decide_eq_decide.2 ⟨fun h => by omega, fun h => by omega⟩
  have e2 : decide ((A : Int) = (i : Int)) = decide (i = A) := decide_eq_decide.2 ⟨fun h => by omega, fun h => by omega⟩
  rw [e1, e2]
theorem nextF_ball {n : Nat} {l : List Ed} (h : OkE n l) (p k v : Nat) : nextF (ball n (adjOf l) p k) l v = ball n (adjOf l) p (k + 1) v := by
  rw [Bool.eq_iff_iff, ball_succ (gr_of h)]
  unfold nextF
  rw [Bool.or_eq_true, List.any_eq_true]
  constructor
  · rintro (h1 | ⟨e, he, h1⟩)
    · exact .inl h1
    · have hg := good_ed (h e he)
      rw [Bool.or_eq_true, Bool.and_eq_true, Bool.and_eq_true, decide_eq_true_eq, decide_eq_true_eq] at h1
      rcases h1 with ⟨h1, h2⟩ | ⟨h1, h2⟩
      · exact .inr ⟨_, h1, adjOf_iff.2 ⟨e, he, .inl ⟨by omega, h2⟩⟩⟩
      · exact .inr ⟨_, h1, adjOf_iff.2 ⟨e, he, .inr ⟨h2, by omega⟩⟩⟩
  · rintro (h1 | ⟨u, h1, h2⟩)
    · exact .inl h1
    · obtain ⟨e, he, h3 | h3⟩ := adjOf_iff.1 h2
      · refine .inr ⟨e, he, ?_⟩
        rw [Bool.or_eq_true, Bool.and_eq_true, decide_eq_true_eq]
        exact .inl ⟨by rw [h3.1, Int.toNat_natCast]; exact h1, h3.2⟩
      · refine .inr ⟨e, he, ?_⟩
        rw [Bool.or_eq_true, Bool.and_eq_true, Bool.and_eq_true, decide_eq_true_eq, decide_eq_true_eq]
        exact .inr ⟨by rw [h3.2, Int.toNat_natCast]; exact h1, h3.1⟩
end GR

/-- A row of yes and no, whose first ones are told. -/
structure FlAt (W : World) (g n : Nat) (f : Nat → Bool) : Prop where
  row : ∃ cur : Array Value, W.heap[g]? = some (.cells cur 4 (0, 0)) ∧ ∀ i, i < n → cur[i]? = some (.bool (f i))
theorem FlAt.cell {W : World} {g n : Nat} {f : Nat → Bool} (h : FlAt W g n f) {i : Nat} (hi : i < n) : W.cell? ⟨g, i, none⟩ = some (.bool (f i)) := by
  obtain ⟨cur, hg, hc⟩ := h.row
  rw [(cell_row hg).1]
  exact hc i hi
theorem FlAt.frozen {W : World} {g n : Nat} {f : Nat → Bool} (h : FlAt W g n f) (i : Nat) : W.frozen? ⟨g, i, none⟩ = false := by
  obtain ⟨cur, hg, _⟩ := h.row
  exact (cell_row hg (i := i)).2
theorem FlAt.lt {W : World} {g n : Nat} {f : Nat → Bool} (h : FlAt W g n f) : g < W.heap.size := by
  obtain ⟨cur, hg, _⟩ := h.row
  exact (Array.getElem?_eq_some_iff.1 hg).1
theorem FlAt.block {W W' : World} {g n : Nat} {f : Nat → Bool} (h : FlAt W g n f) (hb : W'.heap[g]? = W.heap[g]?) : FlAt W' g n f := by
  obtain ⟨cur, hg, hc⟩ := h.row
  exact ⟨cur, hb.trans hg, hc⟩
theorem FlAt.ext {W W' : World} {g n : Nat} {f : Nat → Bool} (h : FlAt W g n f) (he : Ext W W') : FlAt W' g n f := h.block (he.block h.lt)
theorem FlAt.set {W : World} {g n : Nat} {f : Nat → Bool} (h : FlAt W g n f) (v : Nat) : FlAt (W.setCell ⟨g, v, none⟩ (.bool true)) g n (fun i => f i || decide (i = v)) := by
  obtain ⟨cur, hg, hc⟩ := h.row
  refine ⟨cur.setIfInBounds v (.bool true), ?_, fun i hi => ?_⟩
  · unfold World.setCell
    rw [Array.getElem?_modify, if_pos rfl, hg]
    rfl
  · rw [Array.getElem?_setIfInBounds]
    by_cases hiv : v = i
    · subst hiv
      have := (Array.getElem?_eq_some_iff.1 (hc v hi)).1
      rw [if_pos rfl, if_pos this, decide_eq_true rfl, Bool.or_true]
    · rw [if_neg hiv, hc i hi, decide_eq_false (fun e => hiv e.symm), Bool.or_false]
theorem FlAt.congr {W : World} {g n : Nat} {f f' : Nat → Bool} (h : FlAt W g n f) (he : ∀ i, i < n → f i = f' i) : FlAt W g n f' := by
  obtain ⟨cur, hg, hc⟩ := h.row
  exact ⟨cur, hg, fun i hi => by rw [← he i hi]; exact hc i hi⟩
theorem FlAt.news {W : World} {g n : Nat} {f : Nat → Bool} (h : FlAt W g n f) : ∀ j u, ((List.range n).map fun i => Value.bool (f i))[j]? = some u → W.cell? ((⟨g, 0, none⟩ : Addr).add j) = some u := by
  intro j u hj
  rw [List.getElem?_map] at hj
  obtain ⟨x, hx, rfl⟩ := Option.map_eq_some_iff.1 hj
  obtain ⟨hlt, rfl⟩ := List.getElem?_eq_some_iff.1 hx
  rw [List.length_range] at hlt
  rw [Addr.add_lit, Nat.zero_add, List.getElem_range]
  exact h.cell hlt
theorem info_bool : (Try.prog.info? 4).map (fun i => (i.zero, i.size, i.bytes)) = some (some (.bool false), 1, 1) := by kernel_rfl
theorem FlAt.made {W : World} {base n : Nat} {v : Value} {f : Nat → Bool} (h : W.ownsRow base 4 1 v n ((List.range n).map fun i => Value.bool (f i))) (hn : 1 ≤ n) : ∃ g c, v = .slice (some ⟨g, 0, none⟩) n c ∧ FlAt W g n f ∧ base ≤ g := by
  rcases h.2 with ⟨rfl, h0⟩ | ⟨g, cap, cur, rfl, hb2, hg, hle, hc, hs, hx⟩
  · omega
  · refine ⟨g, cap, rfl, ⟨cur, hg, fun i hi => ?_⟩, hb2⟩
    rw [← Array.getElem?_toList]
    have h6 := congrArg (fun l : List Value => l[i]?) hx
    simp only [List.getElem?_take] at h6
    rw [if_pos (by omega)] at h6
    rw [h6]
    simp [hi]

theorem FlAt.mk0 {W : World} {base g n : Nat} (h : W.ownsRow base 4 1 (.slice (some ⟨g, 0, none⟩) n n) n (madeCells (Value.bool false).cells (n * 1)).toList) (hn : 1 ≤ n) : ∃ g', g' = g ∧ FlAt W g' n (fun _ => false) := by
  have e : (madeCells (Value.bool false).cells (n * 1)).toList = (List.range n).map fun _ => Value.bool false := by
    rw [Nat.mul_one]
    apply List.ext_getElem?
    intro i
    unfold madeCells
    simp [Value.cells, Nat.mod_one]
  rw [e] at h
  obtain ⟨g', c, he, hf, _⟩ := FlAt.made (f := fun _ => false) h hn
  injection he with h1 h2 h3
  injection h1 with h1
  injection h1 with h1
  subst h1
  exact ⟨_, rfl, hf⟩

set_option maxRecDepth 100000 in
set_option maxHeartbeats 4000000 in
theorem ref_far_in (v : Value) (l : List GR.Ed) (n p q : Nat) (w : World) (h : EdsV w v l) (hn1 : 1 ≤ n) (hn2 : n ≤ 64) (hp : p < n) (hq : q < n) (hok : GR.OkE n l) :
    Calls Try.prog 13 #[.int .i64 n, v, .int .i64 p, .int .i64 q] w fun e w' => e = .returned (.int .i64 (GR.dz n (GR.adjOf l) p q)) ∧ Ext w w' := by
  obtain ⟨i0, hi, hz0, hz1, hz2⟩ := info_parts info_bool
  have Hi := Lib.hid hi
  obtain ⟨a, c, rfl, hlen, hat⟩ := h
  obtain ⟨m, hm⟩ : ∃ m, l.length = m := ⟨_, rfl⟩
  rw [hm] at hlen hat ⊢
  have HAT := Lib.hid hat
  have HML := Lib.hid hm
  have HOK := Lib.hid hok
  have hpi : (p : Int) < (n : Int) := by omega
  have hqi : (q : Int) < (n : Int) := by omega
  have f1 : decide ((p : Int) ≥ (n : Int)) = false := decide_eq_false (by omega)
  have f2 : decide ((q : Int) ≥ (n : Int)) = false := decide_eq_false (by omega)
  obtain ⟨r, hr⟩ : ∃ r, GR.dz n (GR.adjOf l) p q = r := ⟨_, rfl⟩
  rw [hr]
  have hyes : ∀ k : Nat, GR.ball n (GR.adjOf l) p k q = true → (∀ j, j < k → GR.ball n (GR.adjOf l) p j q = false) → r = k := fun k h1 h2 => by
    rw [← hr]; exact GR.dz_some (GR.gr_of hok) hp ⟨h1, h2⟩
  have hno : (∀ j, j < n + 1 → GR.ball n (GR.adjOf l) p j q = false) → r = -1 := fun h1 => by
    rw [← hr]
    rcases GR.dz_cases (GR.gr_of hok) hp q with ⟨h2, _⟩ | ⟨d, h2, h3, h4⟩
    · exact h2
    · have := h1 d (by omega); rw [h3.1] at this; cases this
  have HYES := Lib.hid hyes
  have HNO := Lib.hid hno
  have hnx := fun k v => GR.nextF_ball hok p k v
  have HNX := Lib.hid hnx
  obtain ⟨B, hB⟩ : ∃ B, GR.ball n (GR.adjOf l) p = B := ⟨_, rfl⟩
  have hB0 : ∀ v, B 0 v = (v == p) := fun v => by rw [← hB]; rfl
  rw [hB] at HYES HNO HNX
  have HB0 := Lib.hid hB0
  clear hi hat hm hok hr hyes hno hnx hB hB0
  go_enter Try.func13, Try.ntmps13
  go_wp2_with (refine wpList_make_full _ rfl (.tmp 29) (.tmp 29) 63 rfl w.heap.size 4 i0 (.bool false) 1 Try.underlying63 Hi.out hz0 hz1 .i64 .i64 n n n rfl rfl rfl rfl (by rw [hz2]; omega) (by unfold maxLen; omega) (Nat.le_refl _) ?_; intro w2 hrow2 hgrow2; obtain ⟨g0, hg0, hfl0⟩ := FlAt.mk0 hrow2 hn1; have HFL0 := Lib.hid hfl0; have HX2 := Lib.hid (grown_ext hgrow2); have b1 := hfl0.cell hp; have b2 := hfl0.frozen p; clear hrow2 hgrow2 hfl0; subst hg0)
  have hfl1 := HFL0.out.set p
  have hx3 : Ext w (w2.setCell ⟨w.heap.size, p, none⟩ (.bool true)) := ext_grownBy HX2.out (grown_setCell _ _ _ _) (Nat.le_refl _)
  have hfl2 : FlAt (w2.setCell ⟨w.heap.size, p, none⟩ (.bool true)) w.heap.size n (B 0) := hfl1.congr (fun i hi => by rw [HB0.out]; simp [Bool.beq_eq_decide_eq])
  generalize w2.setCell ⟨w.heap.size, p, none⟩ (.bool true) = w3 at *
  have HX3 := Lib.hid hx3
  have HFL2 := Lib.hid hfl2
  clear b1 b2 HFL0 hfl1 hx3 hfl2 HX2 f1 f2
  go_loopw [9, 10] (fun v k wr => ∃ (j g c2 : Nat), j ≤ n + 1 ∧ k = .int .i64 j ∧ v = .slice (some ⟨g, 0, none⟩) n c2 ∧ w.heap.size ≤ g ∧ Hid (FlAt wr g n (B j) ∧ (∀ i, i < j → B i q = false) ∧ Ext w wr)) (fun _ k _ => n + 1 - (intOf k).toNat)
  case atStart => exact ⟨0, w.heap.size, n, by omega, rfl, rfl, Nat.le_refl _, Lib.hid ⟨HFL2.out, fun i hi => by omega, HX3.out⟩⟩
  case round =>
    clear HFL2 HX3
    obtain ⟨j, g, c2, hj, rfl, rfl, hgl, HI⟩ := hrel
    by_cases hjn : j ≤ n
    · have hjn2 : (j : Int) ≤ (n : Int) := by omega
      have b1 := HI.out.1.cell hq
      cases hqv : B j q with
      | true =>
        rw [hqv] at b1
        have hres := HYES.out j hqv HI.out.2.1
        subst hres
        have HX := Lib.hid HI.out.2.2
        go_wp2_with fail
        go_ret
        exact ⟨rfl, HX.out⟩
      | false =>
        rw [hqv] at b1
        have HQV := Lib.hid hqv
        clear hqv
        have hgw := HI.out.1.lt
        have HF := Lib.hid (HI.out.1.block (heap_alloc_old wr (.cells #[] 4) hgw))
        have HOWN := Lib.hid (show (wr.alloc (.cells #[] 4)).ownsRow wr.heap.size 4 1 (.slice (some ⟨wr.heap.size, 0, none⟩) 0 0) 0 [] from ⟨rfl, .inr ⟨_, 0, #[], rfl, Nat.le_refl _, heap_alloc_new _ _, Nat.le_refl _, by unfold maxLen; omega, rfl, rfl⟩⟩)
        have HSZ := Lib.hid (World.size_alloc wr (.cells #[] 4))
        have HXA := Lib.hid ((Ext.refl wr).alloc (.cells #[] 4))
        go_wp2_with (at_builtin; refine wpList_append_own_at _ rfl (.tmp 44) (.tmp 45) 63 rfl wr.heap.size 4 i0 (.bool false) 1 1 Try.underlying63 Hi.out hz0 hz1 hz2 rfl (by decide) _ 0 [] rfl HOWN.out ⟨g, 0, none⟩ n c2 ((List.range n).map fun i => Value.bool (B j i)) rfl (by simp) HF.out.news (by intro u hu; obtain ⟨x, _, rfl⟩ := List.mem_map.1 hu; rfl) (by unfold maxLen; omega) (by omega) (by rw [HSZ.out]; omega) ?_; intro v' w6 hown hgrow _ _; rw [Nat.zero_add] at hown; rw [List.nil_append] at hown; obtain ⟨g2, c3, rfl, hf6, hb6⟩ := FlAt.made hown hn1; have HF6 := Lib.hid hf6; have HX6 := Lib.hid (ext_grownV HXA.out HOWN.out hgrow (Nat.le_refl _)); clear hown hgrow hf6)
        have HFo := Lib.hid (HI.out.1.ext HX6.out)
        have HX6' := Lib.hid (HI.out.2.2.trans HX6.out)
        have HLO := Lib.hid HI.out.2.1
        have hne : g2 ≠ g := by omega
        have hg2w : w.heap.size ≤ g2 := by omega
        clear HOWN HF HSZ HXA HI HX6 b1
        go_loopw [12] (fun i W => ∃ x : Nat, x ≤ m ∧ i = .int .i64 x ∧ Hid (FlAt W g n (B j) ∧ FlAt W g2 n (GR.nextF (B j) (l.take x)) ∧ Ext w W)) (fun i _ => m - (intOf i).toNat)
        case atStart => exact ⟨0, by omega, rfl, Lib.hid ⟨HFo.out, by rw [List.take_zero, GR.nextF_nil]; exact HF6.out, HX6'.out⟩⟩
        case round =>
          clear HFo HF6 HX6'
          obtain ⟨x, hx, rfl, HR⟩ := hrel
          by_cases hxm : x < m
          · have hxl : x < l.length := by rw [HML.out]; exact hxm
            obtain ⟨b, off, rfl, hat⟩ : ∃ b off, a = some ⟨b, off, none⟩ ∧ EdsAt w b off l := by
              rcases HAT.out with h | h
              · omega
              · exact h
            have hx1 := HR.out.2.2
            have a1 := hx1.cell (hat x hxl).1
            have a2 := hx1.cell (hat x hxl).2
            have hnx := take_next l x hxl
            have hgd := GR.good_ed (HOK.out l[x] (List.getElem_mem hxl))
            have HAT1 := Lib.hid (hat x hxl)
            generalize l[x] = d at *
            obtain ⟨A, hA⟩ : ∃ A : Nat, d.1 = (A : Int) := ⟨d.1.toNat, by omega⟩
            obtain ⟨C, hC⟩ : ∃ C : Nat, d.2 = (C : Int) := ⟨d.2.toNat, by omega⟩
            obtain ⟨d1, d2⟩ := d
            simp only at hA hC
            subst hA hC
            simp only at hgd a1 a2
            have hAn : A < n := by omega
            have hCn : C < n := by omega
            have b1 := HR.out.1.cell hAn
            have b2 := HR.out.1.cell hCn
            have b3 := HR.out.2.1.cell hAn
            have b4 := HR.out.2.1.cell hCn
            have b5 := HR.out.2.1.frozen A
            have b6 := HR.out.2.1.frozen C
            obtain ⟨bA, hbA⟩ : ∃ bA, B j A = bA := ⟨_, rfl⟩
            obtain ⟨bC, hbC⟩ : ∃ bC, B j C = bC := ⟨_, rfl⟩
            have hsn := GR.nextF_step (B j) (l.take x) A C bA bC hbA hbC
            rw [← hnx] at hsn
            rw [hbA] at b1
            rw [hbC] at b2
            have HSN := Lib.hid hsn
            have HGG := Lib.hid (HR.out.1.lt)
            clear hsn hnx hgd hbA hbC hat hx1
            cases bA with
            | false =>
              cases bC with
              | false =>
                go_wp2_with fail
                go_roundw
                case rel => exact ⟨x + 1, by omega, by go_num, Lib.hid ⟨HR.out.1, HR.out.2.1.congr (fun i _ => by rw [HSN.out]; simp), HR.out.2.2⟩⟩
                case measure => simp [intOf]; omega
              | true =>
                go_wp2_with fail
                go_roundw
                case rel => exact ⟨x + 1, by omega, by go_num, Lib.hid ⟨HR.out.1.block (heap_setCell_ne _ _ _ _ HGG.out (fun e => hne e.symm)), (HR.out.2.1.set A).congr (fun i _ => by rw [HSN.out]; simp), ext_grownBy HR.out.2.2 (grown_setCell _ _ _ _) hg2w⟩⟩
                case measure => simp [intOf]; omega
            | true =>
              have HS := Lib.hid (HR.out.2.1.set C)
              have HE := Lib.hid (ext_grownBy HR.out.2.2 (grown_setCell wr g2 C (.bool true)) hg2w)
              have HG := Lib.hid (HR.out.1.block (heap_setCell_ne wr g2 C (.bool true) HGG.out (fun e => hne e.symm)))
              have a3 := HE.out.cell HAT1.out.1
              have a4 := HE.out.cell HAT1.out.2
              have b7 := HG.out.cell hCn
              have b8 := HS.out.cell hAn
              have b9 := HS.out.frozen A
              have hbC : B j C = bC := by
                have h1 := HR.out.1.cell hCn
                rw [b2] at h1
                injection h1 with h1
                injection h1 with h1
                exact h1.symm
              rw [hbC] at b7
              clear hbC
              cases bC with
              | false =>
                go_wp2_with fail
                go_roundw
                case rel => exact ⟨x + 1, by omega, by go_num, Lib.hid ⟨HG.out, HS.out.congr (fun i _ => by rw [HSN.out]; simp), HE.out⟩⟩
                case measure => simp [intOf]; omega
              | true =>
                go_wp2_with fail
                go_roundw
                case rel => exact ⟨x + 1, by omega, by go_num, Lib.hid ⟨HG.out.block (heap_setCell_ne _ _ _ _ HG.out.lt (fun e => hne e.symm)), (HS.out.set A).congr (fun i _ => by rw [HSN.out]; simp), ext_grownBy HE.out (grown_setCell _ _ _ _) hg2w⟩⟩
                case measure => simp [intOf]; omega
          · have hxe : x = m := by omega
            subst hxe
            have hnx : FlAt wr g2 n (B (j + 1)) := HR.out.2.1.congr (fun i _ => by rw [List.take_of_length_le (by rw [HML.out]; exact Nat.le_refl _)]; exact HNX.out j i)
            have HN := Lib.hid hnx
            clear hnx
            go_wp2_with fail
            go_roundw
            case rel => exact ⟨j + 1, g2, c3, by omega, by go_num, rfl, hg2w, Lib.hid ⟨HN.out, fun i hi => by
              by_cases hij : i < j
              · exact HLO.out i hij
              · have hije : i = j := by omega
                rw [hije]
                exact HQV.out, HR.out.2.2⟩⟩
            case measure => simp [intOf]; omega
    · have hje : j = n + 1 := by omega
      subst hje
      have hres := HNO.out HI.out.2.1
      subst hres
      have HX := Lib.hid HI.out.2.2
      go_wp2_with fail
      go_ret
      exact ⟨rfl, HX.out⟩
end Go.Proofs.Ytcckdogcjjimoaa
