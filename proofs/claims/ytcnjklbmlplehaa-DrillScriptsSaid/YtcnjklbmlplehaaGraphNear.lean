/- What Near of a graph answers. -/
import Derived.Test.YtcnjklbmlplehaaSortInts
namespace Go.Proofs.Ytcnjklbmlplehaa
open Go.RowKit

theorem links_few {n : Nat} {adj : Nat → Nat → Bool} (hn : n ≤ 64) : (GR.links n adj).length ≤ 4096 := by
  have h := GR.linksOf_length n adj n
  have h2 : n * n ≤ 64 * 64 := Nat.mul_le_mul hn hn
  have h3 : (GR.linksOf n adj n).length = (GR.links n adj).length := rfl
  omega
theorem links_sm {n : Nat} {adj : Nat → Nat → Bool} (hn : n ≤ 64) : ∀ z ∈ GR.links n adj, Sm z := by
  intro z hz
  have := GR.mem_links.1 hz
  unfold Sm
  omega
/-- A slice that leads to a new block. -/
def NewV (M : Nat) (v : Value) : Prop := ∀ q n c, v = .slice (some q) n c → M ≤ q.block
theorem new_of_row {W : World} {base : Nat} {e : TypeId} {size : Nat} {v : Value} {n : Nat} {xs : List Value} (h : W.ownsRow base e size v n xs) : NewV base v := by
  intro q m c hv
  rcases h.2 with ⟨rfl, _⟩ | ⟨g, cap, cur, rfl, hb, _⟩
  · cases hv
  · injection hv with e1
    injection e1 with e1
    rw [← e1]
    exact hb

/-- An edge's two ends, seen from a peer. -/
def seen (p : Int) (es : List GR.Ed) : List Int := es.flatMap fun d => if d.1 = p then [d.2] else []
theorem seen_next (p : Int) (es : List GR.Ed) (j : Nat) (h : j < es.length) : seen p (es.take (j + 1)) = seen p (es.take j) ++ if es[j].1 = p then [es[j].2] else [] := by
  unfold seen
  rw [take_next es j h, List.flatMap_append]
  simp
theorem seen_ends (p : Int) (z : GR.Lk) : seen p [((z.1 : Int), (z.2 : Int)), ((z.2 : Int), (z.1 : Int))] = GR.ofN (GR.ends p z) := by
  unfold seen GR.ends GR.ofN
  by_cases h1 : (z.1 : Int) = p <;> by_cases h2 : (z.2 : Int) = p <;> simp [h1, h2]
theorem seen_length (p : Int) (es : List GR.Ed) : (seen p es).length ≤ es.length := by
  unfold seen
  induction es with
  | nil => simp
  | cons d es ih =>
    have h1 : (if d.1 = p then [d.2] else []).length ≤ 1 := by split <;> simp
    rw [List.flatMap_cons, List.length_append, List.length_cons]
    omega
theorem ends_take (p : Int) (L : List GR.Lk) (k : Nat) (h : k < L.length) : GR.ofN ((L.take (k + 1)).flatMap (GR.ends p)) = GR.ofN ((L.take k).flatMap (GR.ends p)) ++ GR.ofN (GR.ends p L[k]) := by
  rw [take_next L k h, List.flatMap_append]
  unfold GR.ofN
  rw [List.map_append]
  simp
theorem ends_length (p : Int) (z : GR.Lk) : (GR.ends p z).length ≤ 2 := by
  unfold GR.ends
  rw [List.length_append]
  split <;> split <;> simp
theorem endss_length (p : Int) (L : List GR.Lk) : (L.flatMap (GR.ends p)).length ≤ L.length * 2 := by
  induction L with
  | nil => simp
  | cons z L ih =>
    have := ends_length p z
    rw [List.flatMap_cons, List.length_append, List.length_cons]
    omega
theorem sorted_ofN (l : List Nat) : (GR.ofN l).mergeSort (fun x y => decide (x ≤ y)) = GR.ofN (l.mergeSort fun x y => decide (x ≤ y)) := by
  unfold GR.ofN
  refine (List.map_mergeSort fun a _ b _ => ?_).symm
  rw [decide_eq_decide]
  show a ≤ b ↔ (a : Int) ≤ (b : Int)
  omega
theorem near_sorted {n : Nat} {adj : Nat → Nat → Bool} (hg : GR.Gr n adj) (hs : ∀ u, adj u u = false) (p : Int) : (GR.ofN ((GR.links n adj).flatMap (GR.ends p))).mergeSort (fun x y => decide (x ≤ y)) = GR.ofN (GR.nearZ n adj p) := by
  rw [sorted_ofN]
  congr 1
  refine GR.sorted_near hg hs (List.mergeSort_perm _ _) ?_
  have := List.pairwise_mergeSort (le := fun x y : Nat => decide (x ≤ y)) (fun a b c h1 h2 => decide_eq_true (Nat.le_trans (of_decide_eq_true h1) (of_decide_eq_true h2))) (fun a b => by
    rcases Nat.le_total a b with h | h
    · rw [decide_eq_true h]; rfl
    · rw [decide_eq_true h, Bool.or_true]) ((GR.links n adj).flatMap (GR.ends p))
  exact this.imp fun h => of_decide_eq_true h
theorem four_cells (w : World) (a b : Int) : EdsAt (w.alloc (.cells #[.int .i64 a, .int .i64 b, .int .i64 b, .int .i64 a] 55)) w.heap.size 0 [(a, b), (b, a)] := by
  intro i hi
  have hi' : i < 2 := hi
  match i, hi' with
  | 0, _ => exact ⟨alloc_cell w _ _ 0, alloc_cell w _ _ 1⟩
  | 1, _ => exact ⟨alloc_cell w _ _ 2, alloc_cell w _ _ 3⟩

set_option maxRecDepth 100000 in
set_option maxHeartbeats 4000000 in
theorem graph_near (B n c : Nat) (adj : Nat → Nat → Bool) (pt : Option Addr) (p : Int) (w : World) (h : GraphAt w B n adj pt c) :
    Calls Try.prog 46 #[.pointer (some ⟨B, 0, none⟩), .int .i64 p] w fun e w' => ∃ v, e = .returned v ∧ IntsV w' v (GR.ofN (GR.nearZ n adj p)) ∧ Ext w w' ∧ NewV w.heap.size v := by
  obtain ⟨i0, hi, hz0, hz1, hz2⟩ := info_parts info_int
  have Hi := Lib.hid hi
  have c1 := h.two.c1
  have hfew := links_few (adj := adj) h.le
  have HSM := Lib.hid (links_sm (adj := adj) h.le)
  have HLK := Lib.hid h.lks
  have HSRT := Lib.hid (near_sorted h.gr h.irr p)
  generalize GR.links n adj = L at *
  obtain ⟨m, hm⟩ : ∃ m, L.length = m := ⟨_, rfl⟩
  rw [hm] at c1 hfew
  have HM := Lib.hid hm
  clear hi h hm
  go_enter Try.func46, Try.ntmps46
  go_wp2
  go_loopw [5, 18] (fun ov i wr => ∃ (k : Nat) (out : List Int), k ≤ m ∧ i = .int .i64 k ∧ IntR w wr ov out ∧ Hid (out = GR.ofN ((L.take k).flatMap (GR.ends p)))) (fun _ i _ => m - (intOf i).toNat)
  case atStart => exact ⟨0, [], by omega, rfl, ⟨World.ownsRow_nil _ _ _ _, Ext.refl _⟩, Lib.hid rfl⟩
  case round =>
    obtain ⟨k, out, hk, rfl, hI, HO⟩ := hrel
    obtain ⟨wo, hwo⟩ : ∃ wo, wo = wr := ⟨_, rfl⟩
    subst hwo
    obtain ⟨p1, q1, rfl⟩ := row_slice hI.row
    have hlen : out.length ≤ k * 2 := by
      rw [HO.out, GR.ofN_length]
      have := endss_length p (L.take k)
      rw [List.length_take] at this
      omega
    by_cases hlt : k < m
    · have hkl : k < L.length := by rw [HM.out]; exact hlt
      obtain ⟨b, o, rfl, hat⟩ : ∃ b o, pt = some ⟨b, o, none⟩ ∧ LksAt w b o L := by
        rcases HLK.out with h0 | h0
        · omega
        · exact h0
      have a1 := hI.ext.cell (hat k hkl)
      have hsm := HSM.out _ (List.getElem_mem hkl)
      have hnx := ends_take p L k hkl
      rw [← HO.out] at hnx
      generalize L[k] = z at *
      have HE := Lib.hid (fun W => graph_edge z hsm.1 hsm.2 W)
      have HT := Lib.hid (fun W => graph_turned z W)
      have HE2 := Lib.hid (fun W => graph_edge (z.2, z.1) hsm.2 hsm.1 W)
      have HNX := Lib.hid hnx
      have HI := Lib.hid hI
      clear hnx hat hsm hI
      go_wp2_with fail
      refine (HE.out _).mono ?_
      rintro e w1 ⟨rfl, g1⟩
      go_wp2_with fail
      refine (HT.out _).mono ?_
      rintro e w2 ⟨rfl, g2⟩
      go_wp2_with fail
      refine (HE2.out _).mono ?_
      rintro e w3 ⟨rfl, g3⟩
      have hx3 := (g1.trans g2).trans g3
      have hI3 := (HI.out.more hx3).more ((Ext.refl w3).alloc (.cells #[.int .i64 z.1, .int .i64 z.2, .int .i64 z.2, .int .i64 z.1] 55))
      have hE3 := four_cells w3 z.1 z.2
      have hne3 : Value.ownBlock (.slice p1 out.length q1) ≠ some w3.heap.size := fun ej => by have := (((HI.out.more hx3).row).lt _ ej).2; omega
      have hlt3 : w3.heap.size < (w3.alloc (.cells #[.int .i64 z.1, .int .i64 z.2, .int .i64 z.2, .int .i64 z.1] 55)).heap.size := by rw [World.size_alloc]; omega
      have HI3 := Lib.hid hI3
      have HE3 := Lib.hid hE3
      clear hI3 hE3
      go_wp2
      generalize hw4 : w3.alloc (.cells #[.int .i64 z.1, .int .i64 z.2, .int .i64 z.2, .int .i64 z.1] 55) = w4 at *
      have hseen := seen_ends p z
      have hes2 : [((z.1 : Int), (z.2 : Int)), ((z.2 : Int), (z.1 : Int))].length = 2 := rfl
      generalize [((z.1 : Int), (z.2 : Int)), ((z.2 : Int), (z.1 : Int))] = es at *
      have HES := Lib.hid hes2
      have HSEEN := Lib.hid hseen
      have hs4 : w.heap.size ≤ w3.heap.size := (HI.out.ext.trans hx3).size
      clear hes2 hseen hw4 HE HT HE2 g1 g2 g3
      go_loopw [5, 29] (fun ov i wr => ∃ (j : Nat) (out2 : List Int), j ≤ 2 ∧ i = .int .i64 j ∧ IntR w wr ov out2 ∧ EdsAt wr w3.heap.size 0 es ∧ ov.ownBlock ≠ some w3.heap.size ∧ w3.heap.size < wr.heap.size ∧ Hid (out2 = out ++ seen p (es.take j))) (fun _ i _ => 2 - (intOf i).toNat)
      case atStart => exact ⟨0, out, by omega, rfl, HI3.out, HE3.out, hne3, hlt3, Lib.hid (by simp [seen])⟩
      case round =>
        obtain ⟨j, out2, hj, rfl, hJ, hes, hne, hlt4, HO2⟩ := hrel
        obtain ⟨p2, q2, rfl⟩ := row_slice hJ.row
        have hlen2 : out2.length ≤ out.length + j := by
          rw [HO2.out, List.length_append]
          have := seen_length p (es.take j)
          rw [List.length_take] at this
          omega
        by_cases hj2 : j < 2
        · have hje : j < es.length := by rw [HES.out]; exact hj2
          have d1 := (hes j hje).1
          have d2 := (hes j hje).2
          rw [Nat.zero_add] at d1 d2
          have hnx2 := seen_next p es j hje
          generalize es[j] = d at *
          have HNX2 := Lib.hid hnx2
          have HJ := Lib.hid hJ
          have HEJ := Lib.hid hes
          have HNE := Lib.hid hne
          have hal : Ext wr (wr.alloc (.cells #[.int .i64 d.1, .int .i64 d.2] 55)) := (Ext.refl _).alloc _
          have hsz : w.heap.size ≤ wr.heap.size := hJ.ext.size
          clear hnx2 hJ hes hne
          by_cases hp : d.1 = p
          · have f1 : (d.1 == p) = true := beq_iff_eq.2 hp
            have HP := Lib.hid hp
            have hrow := (row_to HJ.out.row hal).alloc (.cells #[.int .i64 d.2] 3)
            have HROW := Lib.hid hrow
            have hs2 : w.heap.size ≤ ((wr.alloc (.cells #[.int .i64 d.1, .int .i64 d.2] 55)).alloc (.cells #[.int .i64 d.2] 3)).heap.size := by rw [World.size_alloc, World.size_alloc]; omega
            have hb1 : out2.length + 1 ≤ maxLen := by unfold maxLen; omega
            have hb2 : (out2.length + 1) * 8 ≤ 140737488355328 := by omega
            have hnew := cell_one_new (wr.alloc (.cells #[.int .i64 d.1, .int .i64 d.2] 55)) (.int .i64 d.2) 3
            rw [World.size_alloc] at hnew
            have HNEW := Lib.hid hnew
            clear hrow hp hnew
            go_wp2_with (at_builtin; refine wpList_append_own_at _ rfl _ _ 83 rfl w.heap.size 3 i0 (.int .i64 0) 1 8 Try.underlying83 Hi.out hz0 hz1 hz2 rfl (by decide) _ _ _ rfl HROW.out ⟨wr.heap.size + 1, 0, none⟩ 1 1 [.int .i64 d.2] rfl rfl HNEW.out (by simp [Value.oneCell']) hb1 hb2 hs2 ?_; intro v' w6 hown' hgrow _ hat)
            go_roundw
            case rel =>
              have hx6 := (hal.alloc (.cells #[.int .i64 d.2] 3))
              refine ⟨j + 1, out2 ++ [d.2], by omega, by go_num, ⟨?_, ext_grownV (HJ.out.ext.trans hx6) HROW.out hgrow (Nat.le_refl _)⟩, ?_, ?_, ?_, Lib.hid (by rw [HNX2.out, HO2.out, if_pos HP.out, List.append_assoc])⟩
              · rw [intCells_app, List.length_append]; exact hown'
              · intro i hi
                have h1 := ((HEJ.out.ext hx6) i hi)
                exact ⟨(hgrow.cell h1.1 (fun e => HNE.out e.symm)), (hgrow.cell h1.2 (fun e => HNE.out e.symm))⟩
              · rcases hat with h | h
                · rw [h]; exact HNE.out
                · rw [h]; intro e; injection e with e; rw [World.size_alloc, World.size_alloc] at e; omega
              · have := hgrow.size; rw [World.size_alloc, World.size_alloc] at this; omega
            case measure => simp [intOf]; omega
          · have f1 : (d.1 == p) = false := beq_eq_false_iff_ne.2 hp
            have HP := Lib.hid hp
            clear hp
            go_wp2
            go_roundw
            case rel => exact ⟨j + 1, out2, by omega, by go_num, HJ.out.more hal, HEJ.out.ext hal, HNE.out, by rw [World.size_alloc]; omega, Lib.hid (by rw [HNX2.out, HO2.out, if_neg HP.out, List.append_nil])⟩
            case measure => simp [intOf]; omega
        · obtain rfl : j = 2 := by omega
          have he : out2 = out ++ GR.ofN (GR.ends p z) := by rw [HO2.out, List.take_of_length_le (by rw [HES.out]; omega), HSEEN.out]
          have HE9 := Lib.hid he
          have HJ := Lib.hid hJ
          clear he hJ hes hne
          go_wp2
          go_roundw
          case rel => exact ⟨k + 1, out2, by omega, by go_num, HJ.out, Lib.hid (by rw [HNX.out, HE9.out])⟩
          case measure => simp [intOf]; omega
    · obtain rfl : k = m := by omega
      have he := HO.out
      rw [List.take_of_length_le (by rw [HM.out]; omega)] at he
      have hsr := HSRT.out
      rw [← he] at hsr
      have HSR := Lib.hid hsr
      have HI := Lib.hid hI
      clear he hsr hI
      by_cases h0 : out.length = 0
      · obtain rfl := List.length_eq_zero_iff.1 h0
        clear h0
        go_wp2_with fail
        refine (sort_ints_none _ _ _).mono ?_
        rintro e w3 ⟨rfl, rfl⟩
        go_wp2
        go_ret
        have hz : GR.ofN (GR.nearZ n adj p) = [] := by rw [← HSR.out]; simp
        refine ⟨_, rfl, ?_, HI.out.ext, new_of_row HI.out.row⟩
        rw [hz]
        exact ⟨p1, q1, rfl, by simp, .inl rfl⟩
      · have hp : ∃ g, p1 = some ⟨g, 0, none⟩ := by
          rcases HI.out.row.2 with ⟨e, h⟩ | ⟨g, cap, cur, e, _⟩
          · exact absurd h h0
          · injection e with e1
            exact ⟨g, e1⟩
        obtain ⟨g, rfl⟩ := hp
        have hsort := sort_ints g q1 w.heap.size out (by omega) wo HI.out.row
        have hgb := (HI.out.row.lt g rfl).1
        rw [HSR.out] at hsort
        have HS := Lib.hid hsort
        have hleneq : (GR.ofN (GR.nearZ n adj p)).length = out.length := by rw [← HSR.out]; exact List.length_mergeSort _
        have HLQ := Lib.hid hleneq
        clear hsort h0 hleneq
        go_wp2_with fail
        refine HS.out.mono ?_
        rintro e w3 ⟨rfl, hR, hg3⟩
        have HR := Lib.hid hR
        clear hR
        go_wp2
        go_ret
        refine ⟨_, rfl, ⟨some ⟨g, 0, none⟩, q1, by rw [HLQ.out]; rfl, by rw [HLQ.out]; omega, .inr ⟨g, 0, rfl, HR.out⟩⟩, ext_grownBy HI.out.ext hg3 hgb, new_of_row HI.out.row⟩
end Go.Proofs.Ytcnjklbmlplehaa
