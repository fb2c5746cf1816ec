/- What New of a graph answers, up to its sorting. -/
import Derived.Test.YtcnjklbmlplehaaSortLk
namespace Go.Proofs.Ytcnjklbmlplehaa
open Go.RowKit

theorem info_cz : (Try.prog.info? 60).map (fun i => (i.zero, i.size, i.bytes)) = some (some (.complex .f64 0 0), 1, 16) := by kernel_rfl

/-- A graph on its way: its block, and the links so far. -/
structure LkR (w W : World) (n : Nat) (out : List GR.Lk) (p : Option Addr) (c : Nat) : Prop where
  two : Two W w.heap.size 59 (.int .i64 n) (.slice p out.length c)
  row : W.ownsRow (w.heap.size + 1) 60 1 (.slice p out.length c) out.length (lkCells out)
  ext : Ext w W
theorem LkR.more {w W W' : World} {n : Nat} {out : List GR.Lk} {p : Option Addr} {c : Nat} (h : LkR w W n out p c) (he : Ext W W') : LkR w W' n out p c := ⟨h.two.ext he, row_to h.row he, h.ext.trans he⟩

theorem sm_puts {n : Nat} (hn : n ≤ 64) {l : List GR.Ed} (h : GR.OkE n l) : ∀ z ∈ GR.puts l, Sm z := by
  intro z hz
  obtain ⟨e, he, hz⟩ := ((GR.puts_all _ l rfl).2.1 z).1 hz
  have := GR.good_ed (h e he)
  rw [← hz]
  unfold GR.nrm Sm
  simp only
  omega
theorem sm_nrm {n : Nat} (hn : n ≤ 64) {e : GR.Ed} (h : GR.badE n e = false) : Sm (GR.nrm e) := by
  have := GR.good_ed h
  unfold GR.nrm Sm
  simp only
  omega

set_option maxRecDepth 100000 in
set_option maxHeartbeats 2000000 in
theorem graph_new_count (v : Value) (m : Int) (w : World) (hm : m < 1 ∨ 64 < m) :
    Calls Try.prog 12 #[.int .i64 m, v] w fun e w' => e = .returned (.tuple #[.pointer none, .int .i64 12]) ∧ Ext w w' := by
  rcases hm with hm | hm
  · go_enter Try.func12, Try.ntmps12
    go_wp2
    go_ret2
    exact ⟨rfl, Ext.refl _⟩
  · have h1 : 1 ≤ m := by omega
    go_enter Try.func12, Try.ntmps12
    go_wp2
    go_ret2
    exact ⟨rfl, Ext.refl _⟩

/-- What New answers: a graph of the edges, or why there is none. -/
def NewPost (w : World) (n : Nat) (l : List GR.Ed) (e : Ending) (w' : World) : Prop :=
  if l.any (GR.badE n) then e = .returned (.tuple #[.pointer none, .int .i64 11]) ∧ Ext w w'
  else ∃ v, e = .returned (.tuple #[v, .int .i64 0]) ∧ GraphV w' v n (GR.adjOf l) ∧ Ext w w'
theorem NewPost.bad {w w' : World} {n : Nat} {l : List GR.Ed} {e : Ending} (h : l.any (GR.badE n) = true) (he : e = .returned (.tuple #[.pointer none, .int .i64 11])) (hx : Ext w w') : NewPost w n l e w' := by
  unfold NewPost
  rw [if_pos h]
  exact ⟨he, hx⟩

set_option maxRecDepth 100000 in
set_option maxHeartbeats 4000000 in
theorem graph_new_some (b off k0 c : Nat) (n : Nat) (l : List GR.Ed) (w : World) (hn1 : 1 ≤ n) (hn2 : n ≤ 64) (hk0 : l.length = k0) (hm : k0 ≤ 1000) (hl : EdsAt w b off l) :
    Calls Try.prog 12 #[.int .i64 n, .slice (some ⟨b, off, none⟩) k0 c] w (NewPost w n l) := by
  obtain ⟨i0, hi, hz0, hz1, hz2⟩ := info_parts info_cz
  have Hi := Lib.hid hi
  have HL := Lib.hid hl
  have HK := Lib.hid hk0
  have hT := Two.new w 59 (.int .i64 n) (.slice none 0 0)
  have HT := Lib.hid hT
  clear hi hl hk0 hT
  go_enter Try.func12, Try.ntmps12
  go_wp2
  go_loopw [21] (fun i wr => ∃ (k : Nat) (out : List GR.Lk) (p : Option Addr) (c2 : Nat), k ≤ k0 ∧ i = .int .i64 k ∧ LkR w wr n out p c2 ∧ Hid (out = GR.puts (l.take k)) ∧ Hid (GR.OkE n (l.take k))) (fun i _ => k0 - (intOf i).toNat)
  case atStart => exact ⟨0, [], none, 0, by omega, rfl, ⟨HT.out, World.ownsRow_nil _ _ _ _, (Ext.refl _).alloc _⟩, Lib.hid rfl, Lib.hid (by intro e he; simp at he)⟩
  case round =>
    obtain ⟨k, out, p2, c2, hk, rfl, hI, HO, HOK⟩ := hrel
    by_cases hlt : k < k0
    · have hkl : k < l.length := by rw [HK.out]; exact hlt
      have a1 := hI.ext.cell (HL.out k hkl).1
      have a2 := hI.ext.cell (HL.out k hkl).2
      have a3 := hI.two.c0
      have a4 := hI.two.c1
      have hnx := take_next l k hkl
      have hbm : GR.badE n l[k] = true → l.any (GR.badE n) = true := fun h => List.any_eq_true.2 ⟨_, List.getElem_mem hkl, h⟩
      generalize l[k] = d at *
      have HNX := Lib.hid hnx
      have HBM := Lib.hid hbm
      have HI := Lib.hid hI
      have hal : Ext wr (wr.alloc (.cells #[.int .i64 d.1, .int .i64 d.2] 55)) := (Ext.refl _).alloc _
      have hDt := Two.new wr 55 (.int .i64 d.1) (.int .i64 d.2)
      have b3 := hal.cell a3
      have b1 := hDt.c0
      have b2 := hDt.c1
      have ht1 := graph_there w.heap.size n d.1 (wr.alloc (.cells #[.int .i64 d.1, .int .i64 d.2] 55)) b3
      have ht2 := graph_there w.heap.size n d.2 (wr.alloc (.cells #[.int .i64 d.1, .int .i64 d.2] 55)) b3
      clear hnx hbm hI
      by_cases g1 : 0 ≤ d.1 ∧ d.1 < (n : Int)
      case neg =>
        have HB := Lib.hid (HBM.out (badI_true (n := n) (d := d) (by omega)))
        rw [decide_eq_false g1] at ht1
        have H1 := Lib.hid ht1
        clear ht1 ht2 g1
        go_wp2_with fail
        refine H1.out.mono ?_
        rintro e w1 ⟨rfl, rfl⟩
        go_wp2
        go_ret2
        exact NewPost.bad HB.out rfl (HI.out.ext.trans hal)
      rw [decide_eq_true g1] at ht1
      by_cases g2 : 0 ≤ d.2 ∧ d.2 < (n : Int)
      case neg =>
        have HB := Lib.hid (HBM.out (badI_true (n := n) (d := d) (by omega)))
        rw [decide_eq_false g2] at ht2
        have H1 := Lib.hid ht1
        have H2 := Lib.hid ht2
        clear ht1 ht2 g1 g2
        go_wp2_with fail
        refine H1.out.mono ?_
        rintro e w1 ⟨rfl, rfl⟩
        go_wp2_with fail
        refine H2.out.mono ?_
        rintro e w1 ⟨rfl, rfl⟩
        go_wp2
        go_ret2
        exact NewPost.bad HB.out rfl (HI.out.ext.trans hal)
      rw [decide_eq_true g2] at ht2
      have H1 := Lib.hid ht1
      have H2 := Lib.hid ht2
      clear ht1 ht2
      by_cases g3 : d.1 = d.2
      · have HB := Lib.hid (HBM.out (badI_true (n := n) (d := d) (by omega)))
        have f3 : (d.1 == d.2) = true := beq_iff_eq.2 g3
        clear g1 g2 g3
        go_wp2_with fail
        refine H1.out.mono ?_
        rintro e w1 ⟨rfl, rfl⟩
        go_wp2_with fail
        refine H2.out.mono ?_
        rintro e w1 ⟨rfl, rfl⟩
        go_wp2
        go_ret2
        exact NewPost.bad HB.out rfl (HI.out.ext.trans hal)
      · have f3 : (d.1 == d.2) = false := beq_eq_false_iff_ne.2 g3
        have hgood : GR.badE n d = false := decide_eq_false (by omega)
        have hok2 : GR.OkE n (l.take (k + 1)) := by
          rw [HNX.out]
          intro e he
          rcases List.mem_append.1 he with he | he
          · exact HOK.out e he
          · rw [List.mem_singleton] at he; rw [he]; exact hgood
        have HOK2 := Lib.hid hok2
        have hlink := fun W => graph_link d.1 d.2 ⟨g1.1, by omega⟩ ⟨g2.1, by omega⟩ W
        have hsz : Sm (GR.nrm d) := sm_nrm hn2 hgood
        have hso : ∀ z ∈ out, Sm z := by rw [HO.out]; exact sm_puts hn2 HOK.out
        have hol : out.length ≤ k := by
          rw [HO.out]
          have := (GR.puts_all _ (l.take k) rfl).2.2
          rw [List.length_take] at this
          omega
        have hcont := fun W (hW : Ext wr W) => contains_lk p2 c2 out (GR.nrm d) W (by omega) ((row_lks HI.out.row).ext hW) hso hsz
        have hput : GR.puts (l.take (k + 1)) = GR.put out (GR.nrm d) := by rw [HNX.out, GR.puts_next, ← HO.out]
        have HPUT := Lib.hid hput
        have hcell : lkCells (out ++ [GR.nrm d]) = lkCells out ++ [cz (GR.nrm d)] := lkCells_app _ _
        obtain ⟨x1, x2, hvz⟩ : ∃ x1 x2, cz (GR.nrm d) = .complex .f64 x1 x2 := ⟨_, _, rfl⟩
        change ∀ W, Calls _ _ _ W fun e w' => e = .returned (cz (GR.nrm d)) ∧ Ext W w' at hlink
        rw [hvz] at hlink hcell
        simp only [hvz] at hcont
        have HLINK := Lib.hid hlink
        have HCONT := Lib.hid hcont
        have HCELL := Lib.hid hcell
        clear g1 g2 g3 hgood hok2 hlink hsz hso hcont hput hcell hvz
        go_wp2_with fail
        refine H1.out.mono ?_
        rintro e w1 ⟨rfl, rfl⟩
        go_wp2_with fail
        refine H2.out.mono ?_
        rintro e w1 ⟨rfl, rfl⟩
        go_wp2_with fail
        refine (HLINK.out _).mono ?_
        rintro e w2 ⟨rfl, gl⟩
        have hx2 := hal.trans gl
        have hI2 := HI.out.more hx2
        have e1 := hI2.two.c1
        have e2 := hI2.two.f1
        have HI2 := Lib.hid hI2
        clear hI2
        go_wp2_with fail
        by_cases hmem : GR.nrm d ∈ out
        · have hc := HCONT.out w2 hx2
          rw [decide_eq_true hmem] at hc
          have HMEM := Lib.hid hmem
          clear hmem
          refine hc.mono ?_
          rintro e w3 ⟨rfl, rfl⟩
          clear hc
          go_wp2
          go_roundw
          case rel => exact ⟨k + 1, out, p2, c2, by omega, by go_num, HI2.out, Lib.hid (by rw [HPUT.out, GR.put, if_pos HMEM.out]), HOK2⟩
          case measure => simp [intOf]; omega
        · have hc := HCONT.out w2 hx2
          rw [decide_eq_false hmem] at hc
          have HMEM := Lib.hid hmem
          clear hmem
          refine hc.mono ?_
          rintro e w3 ⟨rfl, rfl⟩
          clear hc
          have hrow := HI2.out.row.alloc (.cells #[.complex .f64 x1 x2] 60)
          have HROW := Lib.hid hrow
          have htw := HI2.out.two.ext ((Ext.refl w2).alloc (.cells #[.complex .f64 x1 x2] 60))
          have HTW := Lib.hid htw
          have hs1 : w.heap.size ≤ w2.heap.size := HI2.out.ext.size
          have hlt3 := HI2.out.two.lt
          have hs2 : w.heap.size + 1 ≤ (w2.alloc (.cells #[.complex .f64 x1 x2] 60)).heap.size := by rw [World.size_alloc]; omega
          have hb1 : out.length + 1 ≤ maxLen := by unfold maxLen; omega
          have hb2 : (out.length + 1) * 16 ≤ 140737488355328 := by omega
          clear hrow htw
          go_wp2_with (at_builtin; refine wpList_append_own_at _ rfl _ _ 57 rfl (w.heap.size + 1) 60 i0 (.complex .f64 0 0) 1 16 Try.underlying57 Hi.out hz0 hz1 hz2 rfl (by decide) _ _ _ rfl HROW.out ⟨w2.heap.size, 0, none⟩ 1 1 [.complex .f64 x1 x2] rfl rfl (cell_one_new _ _ _) (by intro u hu; simp at hu; rw [hu]; rfl) hb1 hb2 hs2 ?_; intro v' w6 hown' hgrow _ hat; obtain ⟨p6, c6, rfl⟩ := row_slice hown'; have t6 := Lib.hid (HTW.out.grownV HROW.out hgrow (by omega)); have k6 := t6.out.c1; have k7 := t6.out.f1; have HG6 := Lib.hid hgrow; have HO6 := Lib.hid hown'; clear hown' hgrow hat)
          go_roundw
          case rel =>
            have hs6 := grown_setCell w6 w.heap.size 1 (.slice p6 (out.length + 1) c6)
            have hrow6 : w6.ownsRow (w.heap.size + 1) 60 1 (.slice p6 (out.length + 1) c6) (out.length + 1) (lkCells (out ++ [GR.nrm d])) := by rw [HCELL.out]; exact HO6.out
            have hne : Value.ownBlock (.slice p6 (out.length + 1) c6) ≠ some w.heap.size := fun ej => by have := (hrow6.lt _ ej).1; omega
            refine ⟨k + 1, out ++ [GR.nrm d], p6, c6, by omega, by go_num, ⟨?_, ?_, ?_⟩, Lib.hid (by rw [HPUT.out, GR.put, if_neg HMEM.out]), HOK2⟩
            · rw [List.length_append]; exact t6.out.set1 _
            · rw [List.length_append]; exact row_grown hrow6 hs6 hne
            · exact ext_grownBy (ext_grownV ((HI2.out.ext).alloc _) HROW.out HG6.out (by omega)) hs6 (by omega)
          case measure => simp [intOf]; omega
    · obtain rfl : k = k0 := by omega
      rw [List.take_of_length_le (by rw [HK.out]; omega)] at HO HOK
      have hno : l.any (GR.badE n) = false := by
        rw [List.any_eq_false]
        intro e he
        rw [HOK.out e he]
        exact Bool.false_ne_true
      have hso : ∀ z ∈ out, Sm z := by rw [HO.out]; exact sm_puts hn2 HOK.out
      have hol : out.length ≤ k := by
        rw [HO.out, ← HK.out]
        exact (GR.puts_all _ l rfl).2.2
      have HNO := Lib.hid hno
      have a4 := hI.two.c1
      have HI := Lib.hid hI
      clear hI hno
      by_cases h0 : out.length = 0
      · have HZ := Lib.hid h0
        rw [h0] at a4
        clear h0
        go_wp2_with fail
        refine (sort_lks_none _ _ _ _).mono ?_
        rintro e w3 ⟨rfl, rfl⟩
        go_wp2
        go_ret2
        have hlk : GR.links n (GR.adjOf l) = [] := by
          rw [← GR.sorted_links HOK.out (R := out) (by rw [HO.out]) (by rw [List.length_eq_zero_iff.1 HZ.out]; exact .nil)]
          exact List.length_eq_zero_iff.1 HZ.out
        unfold NewPost
        rw [if_neg (by rw [HNO.out]; exact Bool.false_ne_true)]
        refine ⟨_, rfl, ⟨w.heap.size, p2, c2, rfl, ⟨?_, ?_, hn1, hn2, GR.gr_of HOK.out, GR.adjOf_self HOK.out⟩⟩, HI.out.ext⟩
        · rw [hlk]
          have := HI.out.two
          rw [HZ.out] at this
          exact this
        · rw [hlk]; exact .inl rfl
      · have hp : ∃ g, p2 = some ⟨g, 0, none⟩ := by
          rcases HI.out.row.2 with ⟨e, h⟩ | ⟨g, cap, cur, e, _⟩
          · exact absurd h h0
          · injection e with e1
            exact ⟨g, e1⟩
        obtain ⟨g, rfl⟩ := hp
        have hsort := sort_lks g c2 (w.heap.size + 1) out hso (by omega) wr HI.out.row
        have hgb := (HI.out.row.lt g rfl).1
        have HS := Lib.hid hsort
        clear hsort hso h0
        go_wp2_with fail
        refine HS.out.mono ?_
        rintro e w3 ⟨rfl, ⟨R, hR1, hR2, hR3⟩, hg3⟩
        have HR := Lib.hid (And.intro hR1 (And.intro hR2 hR3))
        clear hR1 hR2 hR3
        go_wp2
        go_ret2
        have hlk : R = GR.links n (GR.adjOf l) := GR.sorted_links HOK.out (by rw [← HO.out]; exact HR.out.1) HR.out.2.1
        have hlen : (GR.links n (GR.adjOf l)).length = out.length := by rw [← hlk]; exact HR.out.1.length_eq
        unfold NewPost
        rw [if_neg (by rw [HNO.out]; exact Bool.false_ne_true)]
        refine ⟨_, rfl, ⟨w.heap.size, some ⟨g, 0, none⟩, c2, rfl, ⟨?_, .inr ⟨g, 0, rfl, by rw [← hlk]; exact HR.out.2.2⟩, hn1, hn2, GR.gr_of HOK.out, GR.adjOf_self HOK.out⟩⟩, ext_grownBy HI.out.ext hg3 (by omega)⟩
        rw [hlen]
        exact HI.out.two.grown hg3 (by omega)

set_option maxRecDepth 100000 in
theorem graph_new_nil (b : Option Addr) (c : Nat) (n : Nat) (w : World) (hn1 : 1 ≤ n) (hn2 : n ≤ 64) :
    Calls Try.prog 12 #[.int .i64 n, .slice b 0 c] w (NewPost w n []) := by
  have hT := Two.new w 59 (.int .i64 n) (.slice none 0 0)
  have HT := Lib.hid hT
  have a4 := hT.c1
  clear hT
  go_enter Try.func12, Try.ntmps12
  go_wp2
  refine wp_loop_rounds 1 ?_
  rw [rounds_succ]
  go_wp2_with fail
  refine (sort_lks_none _ _ _ _).mono ?_
  rintro e w3 ⟨rfl, rfl⟩
  go_wp2
  go_ret2
  have hok : GR.OkE n [] := fun e he => by cases he
  have hlk : GR.links n (GR.adjOf []) = [] := (GR.sorted_links hok (R := []) (by rfl) .nil).symm
  unfold NewPost
  rw [if_neg (by simp)]
  refine ⟨_, rfl, ⟨w.heap.size, none, 0, rfl, ⟨?_, ?_, hn1, hn2, GR.gr_of hok, GR.adjOf_self hok⟩⟩, (Ext.refl _).alloc _⟩
  · rw [hlk]; exact HT.out
  · rw [hlk]; exact .inl rfl

/-- What New answers. -/
theorem graph_new (v : Value) (l : List GR.Ed) (n : Nat) (w : World) (hn1 : 1 ≤ n) (hn2 : n ≤ 64) (h : EdsV w v l) (hm : l.length ≤ 1000) :
    Calls Try.prog 12 #[.int .i64 n, v] w (NewPost w n l) := by
  obtain ⟨p, c, rfl, _, h0 | ⟨b, o, rfl, hs⟩⟩ := h
  · obtain rfl := List.length_eq_zero_iff.1 h0
    exact graph_new_nil p c n w hn1 hn2
  · exact graph_new_some b o l.length c n l w hn1 hn2 rfl hm hs
theorem graph_new_ok (v : Value) (l : List GR.Ed) (n : Nat) (w : World) (hn1 : 1 ≤ n) (hn2 : n ≤ 64) (h : EdsV w v l) (hm : l.length ≤ 1000) (hb : l.any (GR.badE n) = false) :
    Calls Try.prog 12 #[.int .i64 n, v] w fun e w' => ∃ v', e = .returned (.tuple #[v', .int .i64 0]) ∧ GraphV w' v' n (GR.adjOf l) ∧ Ext w w' :=
  (graph_new v l n w hn1 hn2 h hm).mono fun e w' hp => by
    unfold NewPost at hp
    rw [if_neg (by rw [hb]; exact Bool.false_ne_true)] at hp
    exact hp
theorem graph_new_bad (v : Value) (l : List GR.Ed) (n : Nat) (w : World) (hn1 : 1 ≤ n) (hn2 : n ≤ 64) (h : EdsV w v l) (hm : l.length ≤ 1000) (hb : l.any (GR.badE n) = true) :
    Calls Try.prog 12 #[.int .i64 n, v] w fun e w' => e = .returned (.tuple #[.pointer none, .int .i64 11]) ∧ Ext w w' :=
  (graph_new v l n w hn1 hn2 h hm).mono fun e w' hp => by
    unfold NewPost at hp
    rw [if_pos hb] at hp
    exact hp

end Go.Proofs.Ytcnjklbmlplehaa
