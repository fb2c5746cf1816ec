/- What the document's of answers: the vector of counts. What the document's Join and With answer. -/
import Derived.Test.YtdgjjlffdfpkcaaRefVec
import Derived.Test.YtdgjjlffdfpkcaaVecJoin
import Derived.Deep.MidRow

namespace Go.Proofs.Ytdgjjlffdfpkcaa
open Go.RowKit Go.Shelf

theorem ownsRow_from {W : World} {base : Nat} {e : TypeId} {size : Nat} {v : Value} {k : Nat} {xs : List Value} (h : W.ownsRow base e size v k xs) : ∀ j, v.ownBlock = some j → base ≤ j := by
  intro j ej
  rcases h.2 with ⟨rfl, _⟩ | ⟨g, cap, cur, rfl, hb, _, _⟩
  · simp [Value.ownBlock] at ej
  · obtain rfl : g = j := by simpa [Value.ownBlock] using ej
    exact hb

theorem ownsRow_isSlice {W : World} {base : Nat} {e : TypeId} {size : Nat} {v : Value} {k : Nat} {xs : List Value} (h : W.ownsRow base e size v k xs) : ∃ p c, v = .slice p k c := by
  rcases h.2 with ⟨rfl, rfl⟩ | ⟨g, cap, cur, rfl, _⟩
  · exact ⟨_, _, rfl⟩
  · exact ⟨_, _, rfl⟩

set_option maxRecDepth 100000 in
set_option maxHeartbeats 2000000 in
theorem ref_of (cs : List Value) (f : Nat → Int) (w : World) (hf : ∀ i, i < 64 → cs[i]? = some (.int .i64 (f i))) (hfit : ∀ i, i < 64 → f i ≤ 1048576) :
    Calls Try.prog 63 #[.agg cs.toArray] w fun e w' => ∃ v, e = .returned v ∧ DotsV w' v (Vec.ofCounts f 64) ∧ Ext w w' := by
  obtain ⟨i0, hi, hz0, hz1, hz2⟩ := info_parts info_dot
  have Hi := Lib.hid hi
  have HF := Lib.hid hfit
  clear hi hfit
  go_enter Try.func63, Try.ntmps63
  go_wp2
  have hcell : ∀ i, i < 64 → (w.alloc (.cells (Value.agg cs.toArray).cells 80)).cell? ⟨w.heap.size, i, none⟩ = some (.int .i64 (f i)) := fun i hi => by
    rw [alloc_cell]
    show cs.toArray[i]? = _
    rw [List.getElem?_toArray]
    exact hf i hi
  have hE0 : Ext w (w.alloc (.cells (Value.agg cs.toArray).cells 80)) := (Ext.refl w).alloc _
  have hs0 : (w.alloc (.cells (Value.agg cs.toArray).cells 80)).heap.size = w.heap.size + 1 := World.size_alloc _ _
  simp only [Value.cells] at *
  generalize w.alloc (.cells cs.toArray 80) = w1 at *
  have HC := Lib.hid hcell
  clear hcell hf
  go_loopw [3, 4] (fun v i wr => ∃ (k : Nat), k ≤ 64 ∧ i = .int .i64 k ∧ wr.ownsRow w1.heap.size 26 2 v (Vec.ofCounts f k).length (dotCells (Vec.ofCounts f k)) ∧ Ext w1 wr) (fun _ i _ => 64 - (intOf i).toNat)
  case atStart => exact ⟨0, by omega, rfl, World.ownsRow_nil _ _ _ _, Ext.refl _⟩
  case round =>
    obtain ⟨k, hk, rfl, hrow, he⟩ := hrel
    by_cases hlt : k < 64
    · have h1 := he.cell (HC.out k hlt)
      have hs := he.size
      have hkl := Vec.ok_length (Vec.ofCounts_ok f k hk (fun i hi => HF.out i (by omega))).1
      by_cases hpos : 0 < f k
      · have hst : Vec.ofCounts f (k + 1) = Vec.ofCounts f k ++ [((k : Int), f k)] := by rw [Vec.ofCounts, if_pos hpos]
        have HS := Lib.hid hst
        clear hst
        obtain ⟨p, c, rfl⟩ := ownsRow_isSlice hrow
        have b1 : (Vec.ofCounts f k).length + 1 ≤ maxLen := by unfold maxLen; omega
        have b2 : ((Vec.ofCounts f k).length + 1) * 16 ≤ 140737488355328 := by omega
        have b3 : w1.heap.size ≤ (wr.alloc (.cells #[.int .i64 k, .int .i64 (f k)] 26)).heap.size := by rw [World.size_alloc]; omega
        have hpos2 : decide (f k > 0) = true := decide_eq_true hpos
        generalize hK : (Vec.ofCounts f k).length = K at *
        generalize hD : dotCells (Vec.ofCounts f k) = D at *
        generalize hz : f k = z at *
        go_wp2_with (at_builtin; refine wpList_append_own _ rfl _ _ 22 rfl w1.heap.size 26 i0 (dotV (0, 0)) 2 16 Try.underlying22 Hi.out hz0 hz1 hz2 rfl (by decide) _ _ _ rfl (hrow.alloc _) ⟨wr.heap.size, 0, none⟩ 1 1 [.int .i64 k, .int .i64 z] rfl rfl (cell_two_new _ _ _ _) (by simp [Value.oneCell']) b1 b2 b3 ?_; intro v' w4 hown' hgrow _)
        go_roundw
        case rel =>
          refine ⟨k + 1, by omega, by go_num, ?_, (he.alloc _).grown hgrow (ownsRow_from hrow)⟩
          rw [HS.out, dotCells_app, hD, List.length_append, hK]
          exact hown'
        case measure => simp [intOf]; omega
      · have hst : Vec.ofCounts f (k + 1) = Vec.ofCounts f k := by rw [Vec.ofCounts, if_neg hpos, List.append_nil]
        have HS := Lib.hid hst
        have HR := Lib.hid hrow
        have hpos2 : decide (f k > 0) = false := decide_eq_false hpos
        clear hst hrow
        generalize hz : f k = z at *
        go_wp2
        go_roundw
        case rel => exact ⟨k + 1, by omega, by go_num, by rw [HS.out]; exact HR.out, he⟩
        case measure => simp [intOf]; omega
    · obtain rfl : k = 64 := by omega
      have hok := (Vec.ofCounts_ok f 64 (by omega) HF.out).1
      have hdv := row_dots hrow hok.fit (by have := Vec.ok_length hok; omega)
      have HD := Lib.hid hdv
      have e64 : ((64 : Nat) : Int) = 64 := rfl
      rw [e64]
      clear hdv hrow hok
      go_wp2
      go_ret
      exact ⟨_, rfl, HD.out, hE0.trans he⟩

end Go.Proofs.Ytdgjjlffdfpkcaa

namespace Go.Proofs.Ytdgjjlffdfpkcaa
open Go.RowKit Go.Shelf

theorem info_row : (Try.prog.info? 80).map (·.size) = some 64 := by kernel_rfl

theorem there_new (w : World) (C : Array Value) (t : TypeId) : (w.alloc (.cells C t)).there w.heap.size 0 C.size := fun j hj => by
  rw [Nat.zero_add]
  exact ⟨by rw [alloc_cell]; simp [hj], alloc_frozen _ _ _ _⟩

theorem Ext.setCells {a : World} (b : Nat) (hb : a.heap.size ≤ b) : ∀ (vs : List Value) (o : Nat) (w : World), Ext a w → Ext a (w.setCells b o vs)
  | [], _, _, h => h
  | v :: r, o, w, h => by
    rw [World.setCells]
    exact Ext.setCells b hb r (o + 1) _ (h.setCell hb v)

/-- The greater of two lists' counts. -/
def bothAt (a b : List Dot) (i : Nat) : Int := max (getL a i) (getL b i)

/-- The row of counts, as far as it has come. -/
structure RowOf (w w' : World) (G k : Nat) (f : Nat → Int) : Prop where
  ext : Ext w w'
  cell : ∀ i, i < 64 → w'.cell? ⟨G, i, none⟩ = some (.int .i64 (if i < k then f i else 0))
  melt : ∀ i, i < 64 → w'.frozen? ⟨G, i, none⟩ = false

theorem RowOf.same {w w' w2 : World} {G k : Nat} {f : Nat → Int} (h : RowOf w w' G k f) (he : Ext w' w2) : RowOf w w2 G k f :=
  ⟨h.ext.trans he, fun i hi => he.cell (h.cell i hi), fun i hi => (he.frozen (h.cell i hi)).trans (h.melt i hi)⟩

theorem RowOf.next {w w' : World} {G k : Nat} {f : Nat → Int} (h : RowOf w w' G k f) (hk : k < 64) (hG : w.heap.size ≤ G) : RowOf w (w'.setCell ⟨G, k, none⟩ (.int .i64 (f k))) G (k + 1) f := by
  refine ⟨h.ext.setCell hG _, fun i hi => ?_, fun i hi => by rw [World.frozen?_setCell]; exact h.melt i hi⟩
  by_cases hik : i = k
  · subst hik
    rw [if_pos (by omega)]
    exact World.cell?_setCell_same' _ _ _ (by rw [h.cell i hi]; rfl)
  · rw [World.cell?_setCell_other _ _ _ _ (by simp <;> omega), h.cell i hi]
    by_cases hl : i < k
    · rw [if_pos hl, if_pos (by omega)]
    · rw [if_neg hl, if_neg (by omega)]

theorem RowOf.range {w w' : World} {G : Nat} {f : Nat → Int} (h : RowOf w w' G 64 f) : w'.rangeAt G 0 ((List.range 64).map fun i => .int .i64 (f i)) := fun j v hv => by
  have hj : j < 64 := by have := (List.getElem?_eq_some_iff.1 hv).1; simpa using this
  rw [Nat.zero_add, h.cell j hj, if_pos hj]
  simp [hj] at hv
  rw [hv]

theorem row_cell (f : Nat → Int) (i : Nat) (hi : i < 64) : ((List.range 64).map fun i => (Value.int .i64 (f i)))[i]? = some (.int .i64 (f i)) := by simp [hi]

theorem getL_le (l : List Dot) (p : Int) : getL l p ≤ 1048576 := by
  unfold getL
  split
  · rename_i h; exact Vec.cnt_le (Vec.check_ok.1 h) p
  · decide

set_option maxRecDepth 100000 in
set_option maxHeartbeats 4000000 in
theorem ref_join (u v : Value) (a b : List Dot) (w : World) (ha : DotsV w u a) (hb : DotsV w v b) :
    Calls Try.prog 47 #[u, v] w fun e w' => ∃ v, e = .returned v ∧ DotsV w' v (Vec.joinL a b) ∧ Ext w w' := by
  have HA := Lib.hid ha
  have HB := Lib.hid hb
  clear ha hb
  go_enter Try.func47, Try.ntmps47
  go_wp2_with (refine wpList_store_mid rfl 80 (.tmp 5) (.tmp 7) rfl w.heap.size 0 _ rfl rfl (there_new _ _ _) info_row (by simp [Value.oneCell']) ?_)
  generalize hL : ([.int .i64 0, .int .i64 0, .int .i64 0, .int .i64 0, .int .i64 0, .int .i64 0, .int .i64 0, .int .i64 0, .int .i64 0, .int .i64 0, .int .i64 0, .int .i64 0, .int .i64 0, .int .i64 0, .int .i64 0, .int .i64 0, .int .i64 0, .int .i64 0, .int .i64 0, .int .i64 0, .int .i64 0, .int .i64 0, .int .i64 0, .int .i64 0, .int .i64 0, .int .i64 0, .int .i64 0, .int .i64 0, .int .i64 0, .int .i64 0, .int .i64 0, .int .i64 0, .int .i64 0, .int .i64 0, .int .i64 0, .int .i64 0, .int .i64 0, .int .i64 0, .int .i64 0, .int .i64 0, .int .i64 0, .int .i64 0, .int .i64 0, .int .i64 0, .int .i64 0, .int .i64 0, .int .i64 0, .int .i64 0, .int .i64 0, .int .i64 0, .int .i64 0, .int .i64 0, .int .i64 0, .int .i64 0, .int .i64 0, .int .i64 0, .int .i64 0, .int .i64 0, .int .i64 0, .int .i64 0, .int .i64 0, .int .i64 0, .int .i64 0, .int .i64 0] : List Value) = L
  have hL2 : L = List.replicate 64 (Value.int .i64 0) := by rw [← hL]; rfl
  have hs : L.toArray.size = 64 := by rw [hL2]; simp
  have hR : RowOf w ((w.alloc (.cells L.toArray 80)).setCells w.heap.size 0 L) w.heap.size 0 (bothAt a b) := by
    have ht := there_new w L.toArray 80
    rw [hs] at ht
    refine ⟨Ext.setCells _ (Nat.le_refl _) _ _ _ ((Ext.refl w).alloc _), fun i hi => ?_, fun i hi => ?_⟩
    · have := World.rangeAt_setCells_same (w.alloc (.cells L.toArray 80)) w.heap.size 0 L (by rw [hL2, List.length_replicate, ← hL2]; exact ht) i (.int .i64 0) (by rw [hL2, List.getElem?_replicate, if_pos hi])
      rw [Nat.zero_add] at this
      rw [this, if_neg (by omega)]
    · have := (World.there_setCells ht w.heap.size 0 L i (by omega)).2
      rw [Nat.zero_add] at this
      exact this
  clear hL hL2 hs
  generalize (w.alloc (.cells L.toArray 80)).setCells w.heap.size 0 L = w1 at *
  generalize Value.agg L.toArray = Z
  have HR := Lib.hid hR
  clear hR
  go_wp2
  go_loopw [6] (fun i wr => ∃ (k : Nat), k ≤ 64 ∧ i = .int .i64 k ∧ RowOf w wr w.heap.size k (bothAt a b)) (fun i _ => 64 - (intOf i).toNat)
  case atStart => exact ⟨0, by omega, rfl, HR.out⟩
  case round =>
    obtain ⟨k, hk, rfl, hrow⟩ := hrel
    clear HR
    by_cases hlt : k < 64
    · have HW := Lib.hid hrow
      clear hrow
      have hmx : ∀ x y : Int, getL a k = x → getL b k = y → max x y = bothAt a b k := fun x y h1 h2 => by unfold bothAt; rw [h1, h2]
      go_wp2_with fail
      refine (ref_get u a k _ (HA.out.ext HW.out.ext)).mono ?_
      rintro e w2 ⟨rfl, g2⟩
      go_wp2_with fail
      refine (ref_get v b k _ (HB.out.ext (HW.out.ext.trans g2))).mono ?_
      rintro e w3 ⟨rfl, g3⟩
      have hW3 := HW.out.same (g2.trans g3)
      clear g2 g3 HW
      have c1 := hW3.cell k hlt
      have c2 := hW3.melt k hlt
      rw [if_neg (by omega)] at c1
      have hn := hW3.next hlt (Nat.le_refl _)
      have HN := Lib.hid hn
      have HW := Lib.hid hW3
      clear hW3 hn
      generalize getL a k = x at *
      generalize getL b k = y at *
      have hm := hmx x y rfl rfl
      clear hmx
      have hz : bothAt a b k = if x < y then y else x := by rw [← hm]; split <;> omega
      rw [hz] at HN
      clear hm hz
      go_wp2
      go_roundw
      case rel => exact ⟨k + 1, by omega, by go_num, HN.out⟩
      case measure => simp [intOf]; omega
    · obtain rfl : k = 64 := by omega
      have e64 : ((64 : Nat) : Int) = 64 := rfl
      rw [e64]
      have HW := Lib.hid hrow
      clear hrow
      obtain ⟨qa, hqa⟩ : ∃ q, Vec.checkE (-1) a = q := ⟨_, rfl⟩
      obtain ⟨qb, hqb⟩ : ∃ q, Vec.checkE (-1) b = q := ⟨_, rfl⟩
      have HQA := Lib.hid hqa
      have HQB := Lib.hid hqb
      obtain ⟨pa, ca, rfl, _, _, hda⟩ := HA.out
      obtain ⟨pb, cb, rfl, _, _, hdb⟩ := HB.out
      have HDA := Lib.hid hda
      have HDB := Lib.hid hdb
      clear hqa hqb hda hdb
      by_cases h1 : qa = 0
      · subst h1
        by_cases h2 : qb = 0
        · subst h2
          have hj : Vec.joinL a b = Vec.ofCounts (bothAt a b) 64 := by
            unfold Vec.joinL
            rw [if_pos ⟨HQA.out, HQB.out⟩, Vec.join_counts _ _ (Vec.check_ok.1 HQA.out) (Vec.check_ok.1 HQB.out)]
            congr 1
            funext i
            unfold bothAt getL
            rw [if_pos HQA.out, if_pos HQB.out]
          have HJ := Lib.hid hj
          clear hj
          go_wp2_with fail
          refine (ref_check pa a.length ca a _ (HDA.out.ext HW.out.ext)).mono ?_
          rw [HQA.out]
          rintro e w2 ⟨rfl, g2⟩
          go_wp2_with fail
          refine (ref_check pb b.length cb b _ (HDB.out.ext (HW.out.ext.trans g2))).mono ?_
          rw [HQB.out]
          rintro e w3 ⟨rfl, g3⟩
          have hW3 := HW.out.same (g2.trans g3)
          have hrg := hW3.range
          clear g2 g3 HW
          go_wp2_with (refine wpList_load_mid rfl 80 (.tmp 5) rfl w.heap.size 0 rfl _ _ hrg Try.underlying80 rfl info_row ?_)
          refine (ref_of _ (bothAt a b) _ (fun i hi => row_cell _ i hi) (fun i _ => by have := getL_le a i; have := getL_le b i; unfold bothAt; omega)).mono ?_
          rintro e w4 ⟨v, rfl, hv, g4⟩
          go_wp2
          go_ret
          exact ⟨_, rfl, by rw [HJ.out]; exact hv, hW3.ext.trans g4⟩
        · have hq0 : ((qb : Int) != 0) = true := by rw [bne_iff_ne]; omega
          have hj : Vec.joinL a b = [] := if_neg fun h => h2 (HQB.out.symm.trans h.2)
          have HJ := Lib.hid hj
          clear hj
          go_wp2_with fail
          refine (ref_check pa a.length ca a _ (HDA.out.ext HW.out.ext)).mono ?_
          rw [HQA.out]
          rintro e w2 ⟨rfl, g2⟩
          go_wp2_with fail
          refine (ref_check pb b.length cb b _ (HDB.out.ext (HW.out.ext.trans g2))).mono ?_
          rw [HQB.out]
          rintro e w3 ⟨rfl, g3⟩
          go_wp2
          go_ret
          refine ⟨_, rfl, ?_, HW.out.ext.trans (g2.trans g3)⟩
          rw [HJ.out]
          exact ⟨none, 0, rfl, by simp, by unfold maxLen; omega, rfl, by simp, by simp, .inl rfl⟩
      · have hq0 : ((qa : Int) != 0) = true := by rw [bne_iff_ne]; omega
        have hj : Vec.joinL a b = [] := if_neg fun h => h1 (HQA.out.symm.trans h.1)
        have HJ := Lib.hid hj
        clear hj
        go_wp2_with fail
        refine (ref_check pa a.length ca a _ (HDA.out.ext HW.out.ext)).mono ?_
        rw [HQA.out]
        rintro e w2 ⟨rfl, g2⟩
        go_wp2
        go_ret
        refine ⟨_, rfl, ?_, HW.out.ext.trans g2⟩
        rw [HJ.out]
        exact ⟨none, 0, rfl, by simp, by unfold maxLen; omega, rfl, by simp, by simp, .inl rfl⟩

set_option maxRecDepth 100000 in
theorem ref_with (v : Value) (d : Dot) (a : List Dot) (w : World) (ha : DotsV w v a) (hd : Fit d) :
    Calls Try.prog 42 #[v, dotV d] w fun e w' => ∃ v', e = .returned v' ∧ DotsV w' v' (Vec.joinL a [d]) ∧ Ext w w' := by
  unfold dotV
  go_enter Try.func42, Try.ntmps42
  go_wp2_with fail
  have hE : Ext w ((w.alloc (.cells #[.int .i64 d.1, .int .i64 d.2] 26)).alloc (.cells #[.int .i64 d.1, .int .i64 d.2] 26)) := ((Ext.refl w).alloc _).alloc _
  have h1 := dots_one d hd (w.alloc (.cells #[.int .i64 d.1, .int .i64 d.2] 26))
  rw [World.size_alloc] at h1
  have h2 := ha.ext hE
  refine (ref_join _ _ a [d] _ h2 h1).mono ?_
  rintro e w2 ⟨v', rfl, h5, g2⟩
  go_wp2
  go_ret
  exact ⟨_, rfl, h5, hE.trans g2⟩

end Go.Proofs.Ytdgjjlffdfpkcaa
