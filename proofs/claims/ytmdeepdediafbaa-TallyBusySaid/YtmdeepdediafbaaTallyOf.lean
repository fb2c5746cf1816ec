/- What Of answers: the tally of events. -/
import Derived.Test.YtmdeepdediafbaaTallyAdd
import Derived.Test.YtmdeepdediafbaaRefJoin
namespace Go.Proofs.Ytmdeepdediafbaa
open Go.RowKit Go.Shelf

/-- The numbers of events. -/
def countAll (l : List Ev) : Nat → Int := l.foldl (fun x e => bump e x) (fun _ => 0)
/-- The vector of events. -/
def giveAll (l : List Ev) : List Dot := l.foldl (fun G e => give e G) []
/-- A tally's cells. -/
def tallyCells (x : Nat → Int) (g : Value) : List Value := (List.range 44).map (fun i => .int .i64 (x i)) ++ [g]

theorem tallyCells_length (x : Nat → Int) (g : Value) : (tallyCells x g).length = 45 := by simp [tallyCells]
theorem tallyCells_num (x : Nat → Int) (g : Value) (i : Nat) (hi : i < 44) : (tallyCells x g)[i]? = some (.int .i64 (x i)) := by
  unfold tallyCells
  rw [List.getElem?_append_left (by simpa using hi)]
  simp [hi]
theorem tallyCells_giv (x : Nat → Int) (g : Value) : (tallyCells x g)[44]? = some g := by
  unfold tallyCells
  rw [List.getElem?_append_right (by simp)]
  simp

theorem TallyAt.range {w : World} {T : Nat} {x : Nat → Int} {g : Value} {G : List Dot} (h : TallyAt w T x g G) : w.rangeAt T 0 (tallyCells x g) := fun j v hv => by
  have hj : j < 45 := by have := (List.getElem?_eq_some_iff.1 hv).1; rw [tallyCells_length] at this; exact this
  rw [Nat.zero_add]
  rcases Nat.lt_or_ge j 44 with h1 | h1
  · rw [tallyCells_num x g j h1] at hv
    rw [h.num j h1]; exact hv
  · obtain rfl : j = 44 := by omega
    rw [tallyCells_giv] at hv
    rw [h.giv]; exact hv

theorem tallyCells_one {w : World} {x : Nat → Int} {g : Value} {G : List Dot} (h : DotsV w g G) : ∀ v ∈ tallyCells x g, v.oneCell' = true := by
  obtain ⟨p, c, rfl, _⟩ := h
  intro v hv
  unfold tallyCells at hv
  rcases List.mem_append.1 hv with hv | hv
  · obtain ⟨i, _, rfl⟩ := List.mem_map.1 hv
    rfl
  · rw [List.mem_singleton] at hv
    subst hv
    rfl

theorem info_tally : (Try.prog.info? 28).map (·.size) = some 45 := by kernel_rfl
theorem info_event : (Try.prog.info? 49).map (·.size) = some 12 := by kernel_rfl
theorem Ev.one (e : Ev) : ∀ v ∈ e.cells, v.oneCell' = true := by
  intro v hv
  simp only [Ev.cells, List.mem_cons, List.not_mem_nil, or_false] at hv
  rcases hv with rfl | rfl | rfl | rfl | rfl | rfl | rfl | rfl | rfl | rfl | rfl | rfl <;> rfl

theorem countAll_next (l : List Ev) (k : Nat) (h : k < l.length) : countAll (l.take (k + 1)) = bump l[k] (countAll (l.take k)) := by rw [take_next l k h]; unfold countAll; rw [List.foldl_append]; rfl
theorem giveAll_next (l : List Ev) (k : Nat) (h : k < l.length) : giveAll (l.take (k + 1)) = give l[k] (giveAll (l.take k)) := by rw [take_next l k h]; unfold giveAll; rw [List.foldl_append]; rfl

theorem bump_le (e : Ev) (x : Nat → Int) (j : Nat) : x j ≤ bump e x j ∧ bump e x j ≤ x j + 4 := by
  unfold bump bumpE
  have h1 := incAt_le x 0 j
  have h2 := bumpK_le e.kind e.err (incAt x 0) j
  split
  · have := incAt_le (bumpK e.kind e.err (incAt x 0)) (27 + e.err.toNat) j
    omega
  · omega
theorem foldl_bump_le (l : List Ev) : ∀ (x : Nat → Int) (j : Nat), x j ≤ l.foldl (fun x e => bump e x) x j ∧ l.foldl (fun x e => bump e x) x j ≤ x j + 4 * l.length := by
  induction l with
  | nil => intro x j; simp
  | cons e l ih =>
    intro x j
    have h1 := ih (bump e x) j
    have h2 := bump_le e x j
    simp only [List.foldl_cons, List.length_cons]
    omega
theorem countAll_le (l : List Ev) (j : Nat) : 0 ≤ countAll l j ∧ countAll l j ≤ 4 * l.length := by
  have := foldl_bump_le l (fun _ => 0) j
  unfold countAll
  omega

theorem new_tally (w : World) : TallyAt (w.alloc (.cells (tallyCells (fun _ => 0) (.slice none 0 0)).toArray 28)) w.heap.size (fun _ => 0) (.slice none 0 0) [] := by
  refine ⟨fun i hi => ?_, ?_, fun i _ => alloc_frozen _ _ _ _, ⟨none, 0, rfl, by simp, by unfold maxLen; omega, rfl, by simp, by simp, .inl rfl⟩, fun q n c e => by cases e⟩
  · rw [alloc_cell, List.getElem?_toArray]; exact tallyCells_num _ _ i hi
  · rw [alloc_cell, List.getElem?_toArray]; exact tallyCells_giv _ _

section
variable {P : Program} {ops : Array Oper} {rest : List Oper} {a : Act} {w : World} {Q : Exit → Act → World → Prop} {dst : Option Tmp} {tp : TypeId} {ps : String} {af : Array Edge}
theorem load_mid_at (ty : TypeId) (t : Tmp) (b o : Nat) (cs : List Value) (d : TypeDesc) (hx : a.eval (.tmp t) = .pointer (some ⟨b, o, none⟩)) (hc : w.rangeAt b o cs)
    (hu : P.underlying ty = some d) (hd : d.isRow = true) (hi : (P.info? ty).map (·.size) = some cs.length)
    (h : wpList P ops Q rest (a.put dst (.agg cs.toArray)) w) : wpList P ops Q ({ dst := dst, op := .load ty (.tmp t), type := tp, pos := ps, after := af, guard := none } :: rest) a w :=
  wpList_load_mid rfl ty _ rfl b o hx cs d hc hu hd hi h
theorem store_mid_at (ty : TypeId) (t u : Tmp) (b o : Nat) (cells : Array Value) (hx : a.eval (.tmp t) = .pointer (some ⟨b, o, none⟩)) (hy : a.eval (.tmp u) = .agg cells)
    (ht : w.there b o cells.size) (hi : (P.info? ty).map (·.size) = some cells.size) (h1 : cells.all (·.oneCell') = true)
    (h : wpList P ops Q rest (a.put dst undef) (w.setCells b o cells.toList)) : wpList P ops Q ({ dst := dst, op := .store ty (.tmp t) (.tmp u), type := tp, pos := ps, after := af, guard := none } :: rest) a w :=
  wpList_store_mid rfl ty _ _ rfl b o cells hx hy ht hi h1 h
end

theorem results_cell {P : Program} {w : World} {fn : Func} {t : Tmp} {ty : TypeId} (h : fn.results = #[.cell t ty]) (tmps : Array Value) (b o : Nat) (hx : tmps.getD t undef = .pointer (some ⟨b, o, none⟩)) (cs : List Value) (d : TypeDesc) (hc : w.rangeAt b o cs)
    (hu : P.underlying ty = some d) (hd : d.isRow = true) (hi : (P.info? ty).map (·.size) = some cs.length) : (results fn tmps).run P w = .ok (.agg cs.toArray) w := by
  have hx' : tmps[t]?.getD undef = .pointer (some ⟨b, o, none⟩) := by simpa using hx
  simp only [results, h]
  simp [hx', asAddr, run_loadVar_mid w b o ty cs d hc hu hd hi]

theorem heap_setCells (b : Nat) : ∀ (vs : List Value) (o : Nat) (w : World) (k : Nat), k ≠ b → (w.setCells b o vs).heap[k]? = w.heap[k]?
  | [], _, _, _, _ => rfl
  | v :: r, o, w, k, h => by
    rw [World.setCells, heap_setCells b r (o + 1) _ k h]
    exact Below.heap_setCell _ _ _ _ h

theorem DotsV.setCells {w : World} {v : Value} {G : List Dot} {B o : Nat} {vs : List Value} (h : DotsV w v G) (hl : ∀ q n c, v = .slice (some q) n c → n ≠ 0 → q.block ≠ B) : DotsV (w.setCells B o vs) v G := by
  obtain ⟨p, c, rfl, h1, h2, d1, d2, d3, d4⟩ := h
  refine ⟨p, c, rfl, h1, h2, d1, d2, d3, ?_⟩
  rcases d4 with d4 | ⟨b, off, rfl, hs⟩
  · exact .inl d4
  · by_cases h0 : G.length = 0
    · exact .inl h0
    · exact .inr ⟨b, off, rfl, hs.of_block (heap_setCells _ _ _ _ _ (hl _ _ _ rfl h0))⟩

theorem Turned.of_ext {Bs : Nat → Prop} {w w' : World} (h : Ext w w') : Turned Bs w w' := ⟨h.os, h.tape, h.output, h.size, fun _ hk _ => h.block hk⟩
theorem Turned.trans {Bs : Nat → Prop} {a b c : World} (h : Turned Bs a b) (k : Turned Bs b c) : Turned Bs a c :=
  ⟨k.os.trans h.os, k.tape.trans h.tape, k.output.trans h.output, Nat.le_trans h.size k.size, fun i hi hn => (k.block i (by have := h.size; omega) hn).trans (h.block i hi hn)⟩

theorem range_there {w : World} {b o : Nat} {cs : List Value} (h : w.rangeAt b o cs) (hf : ∀ j, j < cs.length → w.frozen? ⟨b, o + j, none⟩ = false) : w.there b o cs.length := fun j hj => ⟨h.isSome j hj, hf j hj⟩

set_option maxRecDepth 100000 in
set_option maxHeartbeats 4000000 in
theorem tally_of (p : Option Addr) (n c : Nat) (l : List Ev) (w : World) (hm : n ≤ 400) (hl : Events w p n l) :
    Calls Try.prog 8 #[.slice p n c] w fun e w' => ∃ g, e = .returned (.agg (tallyCells (countAll l) g).toArray) ∧ DotsV w' g (giveAll l) ∧ Ext w w' := by
  go_enter Try.func8, Try.ntmps8
  go_wp2
  generalize hL : ([.int .i64 0, .int .i64 0, .int .i64 0, .int .i64 0, .int .i64 0, .int .i64 0, .int .i64 0, .int .i64 0, .int .i64 0, .int .i64 0, .int .i64 0, .int .i64 0, .int .i64 0, .int .i64 0, .int .i64 0, .int .i64 0, .int .i64 0, .int .i64 0, .int .i64 0, .int .i64 0, .int .i64 0, .int .i64 0, .int .i64 0, .int .i64 0, .int .i64 0, .int .i64 0, .int .i64 0, .int .i64 0, .int .i64 0, .int .i64 0, .int .i64 0, .int .i64 0, .int .i64 0, .int .i64 0, .int .i64 0, .int .i64 0, .int .i64 0, .int .i64 0, .int .i64 0, .int .i64 0, .int .i64 0, .int .i64 0, .int .i64 0, .int .i64 0, .slice none 0 0] : List Value) = L
  have hL2 : L = tallyCells (fun _ => 0) (.slice none 0 0) := by rw [← hL]; rfl
  have hT := new_tally (w.alloc (.cells L.toArray 28))
  have hR0 := there_new w L.toArray 28
  have hsz : L.toArray.size = 45 := by rw [hL2]; simp [tallyCells_length]
  rw [← hL2, World.size_alloc] at hT
  rw [hsz] at hR0
  have hR := World.there_alloc hR0 (.cells L.toArray 28)
  have hE : Ext w ((w.alloc (.cells L.toArray 28)).alloc (.cells L.toArray 28)) := ((Ext.refl w).alloc _).alloc _
  clear hL hL2 hR0 hsz
  generalize (w.alloc (.cells L.toArray 28)).alloc (.cells L.toArray 28) = w2 at *
  have H2 := Lib.hid hT
  have HR := Lib.hid hR
  have HE := Lib.hid hE
  have HL := Lib.hid hl
  clear hT hR hE hl
  go_loopw [8] (fun i wr => ∃ (k : Nat) (g : Value), k ≤ n ∧ i = .int .i64 k ∧ TallyAt wr (w.heap.size + 1) (countAll (l.take k)) g (giveAll (l.take k)) ∧ Turned (· = w.heap.size + 1) w2 wr) (fun i _ => n - (intOf i).toNat)
  case atStart => exact ⟨0, _, by omega, rfl, by rw [List.take_zero]; exact H2.out, Turned.refl _ _⟩
  case round =>
    obtain ⟨k, g, hk, rfl, ht, hr⟩ := hrel
    have hEr := hr.ext HE.out (by intro _ hk; omega)
    by_cases hlt : k < n
    · have hkl : k < l.length := by rw [HL.out.1]; exact hlt
      obtain ⟨_, _, hfit, h4 | ⟨b, off, rfl, hl⟩⟩ := HL.out
      · omega
      have hrg := hl.ext hEr k hkl
      have hfe := (hfit l[k] (List.getElem_mem _)).1
      have hct := countAll_le (l.take k)
      have hcn := countAll_next l k hkl
      have hgn := giveAll_next l k hkl
      have hlen : (l.take k).length ≤ 400 := by rw [List.length_take]; omega
      generalize l[k] = e at *
      have HT := Lib.hid ht
      have HTU := Lib.hid hr
      have HCN := Lib.hid hcn
      have HGN := Lib.hid hgn
      have HCT := Lib.hid hct
      have HFE := Lib.hid hfe
      clear ht hr hcn hgn hct hfe hl hfit hEr HR HE HL H2
      go_wp2_with (first | ((with_reducible refine load_mid_at 49 10 b (off + k * 12) e.cells _ ?_ hrg Try.underlying49 ?_ ?_ ?_); rfl; rfl; exact info_event; skip) | ((with_reducible refine store_mid_at 49 5 11 wr.heap.size 0 e.cells.toArray ?_ ?_ ?_ ?_ (all_oneCell_toArray e.one) ?_); rfl; rfl; exact there_new _ _ _; exact info_event; skip) | ((with_reducible refine load_mid_at 49 5 wr.heap.size 0 e.cells _ ?_ ?_ Try.underlying49 ?_ ?_ ?_); rfl; exact World.rangeAt_setCells_same _ _ _ _ (there_new _ _ _); rfl; exact info_event; skip))
      have hEx : Ext wr _ := Ext.setCells wr.heap.size (Nat.le_refl _) e.cells 0 (wr.alloc (.cells #[.int .i64 0, .int .i64 0, .int .i64 0, .int .i64 0, .int .i64 0, .int .i64 0, .int .i64 0, .string ⟨#[]⟩, .string ⟨#[]⟩, .int .i64 0, .int .i64 0, .int .i64 0] 49)) ((Ext.refl wr).alloc _)
      have hTx := HT.out.ext hEx
      have hTUx := HTU.out.trans (Turned.of_ext hEx)
      clear hEx hrg
      generalize (wr.alloc (.cells #[.int .i64 0, .int .i64 0, .int .i64 0, .int .i64 0, .int .i64 0, .int .i64 0, .int .i64 0, .string ⟨#[]⟩, .string ⟨#[]⟩, .int .i64 0, .int .i64 0, .int .i64 0] 49)).setCells wr.heap.size 0 e.cells = w3 at *
      refine (tally_add (w.heap.size + 1) _ g _ e w3 hTx (fun i _ => by have := HCT.out i; omega) HFE.out).mono ?_
      rintro r w4 ⟨⟨v, rfl⟩, ⟨g', ht'⟩, hr'⟩
      have HT4 := Lib.hid ht'
      have HR4 := Lib.hid (hTUx.trans hr')
      clear ht' hr' hTx hTUx HT HTU HCT HFE
      go_wp2
      go_roundw
      case rel => exact ⟨k + 1, g', by omega, by go_num, by rw [HCN.out, HGN.out]; exact HT4.out, HR4.out⟩
      case measure => simp [intOf]; omega
    · obtain rfl : k = n := by omega
      have hw := HL.out.1
      rw [List.take_of_length_le (by omega)] at ht
      have hrg := ht.range
      have hth : wr.there w.heap.size 0 (tallyCells (countAll l) g).toArray.size := by
        have e45 : (tallyCells (countAll l) g).toArray.size = 45 := by simp [tallyCells_length]
        rw [e45]
        intro j hj
        obtain ⟨h1, h2⟩ := HR.out j hj
        have hb := hr.block w.heap.size (by obtain ⟨u, hu⟩ := Option.isSome_iff_exists.1 h1; exact lt_of_cell hu) (by omega)
        rw [World.cell?_of_block (a := ⟨w.heap.size, 0 + j, none⟩) hb, World.frozen?_of_block (a := ⟨w.heap.size, 0 + j, none⟩) hb]
        exact ⟨h1, h2⟩
      have info_t1 : (Try.prog.info? 28).map (·.size) = some (tallyCells (countAll l) g).length := by rw [tallyCells_length]; exact info_tally
      have info_t2 : (Try.prog.info? 28).map (·.size) = some (tallyCells (countAll l) g).toArray.size := by rw [show (tallyCells (countAll l) g).toArray.size = (tallyCells (countAll l) g).length from rfl]; exact info_t1
      have hone := all_oneCell_toArray (tallyCells_one (x := countAll l) ht.dots)
      have HD := Lib.hid (ht.dots.setCells (B := w.heap.size) (o := 0) (vs := tallyCells (countAll l) g) (fun q n c e h0 => by have := ht.low q n c e h0; omega))
      have hth2 : wr.there w.heap.size 0 (tallyCells (countAll l) g).length := hth
      have hsame := World.rangeAt_setCells_same _ _ _ _ hth2
      have HEr := Lib.hid hEr
      clear HR HE HL H2 ht hr hEr
      go_wp2_with (first | ((with_reducible refine load_mid_at 28 3 (w.heap.size + 1) 0 (tallyCells (countAll l) g) _ ?_ hrg Try.underlying28 ?_ ?_ ?_); rfl; rfl; exact info_t1; skip) | ((with_reducible refine store_mid_at 28 2 15 w.heap.size 0 (tallyCells (countAll l) g).toArray ?_ ?_ hth ?_ hone ?_); rfl; rfl; exact info_t2; skip))
      refine bodyPost_ret (results_cell (cs := tallyCells (countAll l) g) rfl _ w.heap.size 0 rfl _ hsame Try.underlying28 rfl info_t1) rfl ?_
      exact ⟨g, rfl, HD.out, Ext.setCells _ (Nat.le_refl _) _ _ _ HEr.out⟩

end Go.Proofs.Ytmdeepdediafbaa
