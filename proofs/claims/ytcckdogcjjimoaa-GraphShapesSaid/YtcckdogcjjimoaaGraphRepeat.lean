/- What slices.Repeat makes of one number. -/
import Derived.Test.YtcckdogcjjimoaaGraphNear
import Derived.Shelf.Bits.Mul64
import Derived.Laws.CopyRow
import Derived.Laws.CopyOwn
import Derived.Shelf.RegionOpenPlain
import Derived.Shelf.Spec.SlicesInsert
namespace Go.Proofs.Ytcckdogcjjimoaa
open Go.RowKit Go.Shelf Go.Lib
def Try.bitsMul_ren : Go.Shelf.Ren := ⟨fun | 212 => 61 | 263 => 76 | 264 => 77 | n => n, fun | 46 => 75 | 51 => 89 | 146 => 105 | 53 => 38 | 148 => 107 | n => n, fun | n => n⟩
theorem Try.bitsMul : Go.Proofs.Lays.n212 Try.prog Try.bitsMul_ren := {
  mixed := by kernel_rfl,
  f212 := Try.func61.trans (congrArg some (by kernel_rfl)),
  f263 := Try.func76.trans (congrArg some (by kernel_rfl)),
  f264 := Try.func77.trans (congrArg some (by kernel_rfl)),
  t46 := Try.underlying75,
  a46 := Try.isAgg75,
  z46 := Try.sizeOf75,
  v46 := Try.zeroValue75,
  t51 := Try.underlying89,
  a51 := Try.isAgg89,
  z51 := Try.sizeOf89,
  v51 := Try.zeroValue89,
  t53 := Try.underlying38,
  a53 := Try.isAgg38,
  z53 := Try.sizeOf38,
  v53 := Try.zeroValue38,
  t146 := Try.underlying105,
  a146 := Try.isAgg105,
  z146 := Try.sizeOf105,
  v146 := Try.zeroValue105,
  t148 := Try.underlying107,
  a148 := Try.isAgg107,
  z148 := Try.sizeOf107,
  v148 := Try.zeroValue107
}

/-- A row behind a store of some cells. -/
def layc (cur : Array Value) (o : Nat) (cs : List Value) : Array Value := (cur.toList.take o ++ cs ++ cur.toList.drop (o + cs.length)).toArray
theorem layc_size (cur : Array Value) (o : Nat) (cs : List Value) (h : o + cs.length ≤ cur.size) : (layc cur o cs).size = cur.size := by
  unfold layc; simp; omega

theorem layc_to (cur : Array Value) (o : Nat) (cs : List Value) (h : o + cs.length ≤ cur.size) : (layc cur o cs).toList.take o = cur.toList.take o := by
  have hl : (cur.toList.take o).length = o := by simp; omega
  unfold layc
  simp only [List.append_assoc]
  rw [List.take_append_of_le_length (by rw [hl]; exact Nat.le_refl _), List.take_of_length_le (by rw [hl]; exact Nat.le_refl _)]
theorem layc_past (cur : Array Value) (o : Nat) (cs : List Value) (h : o + cs.length ≤ cur.size) : (layc cur o cs).toList.take (o + cs.length) = cur.toList.take o ++ cs := by
  have hl : (cur.toList.take o ++ cs).length = o + cs.length := by simp; omega
  unfold layc
  rw [List.take_append_of_le_length (by rw [hl]; exact Nat.le_refl _), List.take_of_length_le (by rw [hl]; exact Nat.le_refl _)]

theorem setCells_row (w : World) (g o : Nat) (t : TypeId) (cur : Array Value) (vs : List Value) (hg : w.heap[g]? = some (.cells cur t (0, 0))) (hfit : o + vs.length ≤ cur.size) (h1 : ∀ v ∈ vs, v.oneCell' = true) :
    w.setCells g o vs = w.setRow g (layc cur o vs) := by
  have a := run_storeCells_at Try.prog g o t vs 0 cur w hg (by simpa using hfit) h1
  have b := run_storeCells_cells (P := Try.prog) g o vs 0 w (fun j hj => by
      have : (w.cell? ⟨g, o + 0 + j, none⟩) = cur[o + 0 + j]? := by unfold World.cell?; simp [hg]
      rw [this, Array.getElem?_eq_getElem (by omega)]; rfl) (fun j _ => by unfold World.frozen?; simp [hg]) h1
  rw [a] at b
  simp only [Nat.add_zero] at b
  injection b with _ b
  exact b.symm

theorem heap_setCells (w : World) (g o : Nat) (t : TypeId) (cur : Array Value) (vs : List Value) (hg : w.heap[g]? = some (.cells cur t (0, 0))) (hfit : o + vs.length ≤ cur.size) (h1 : ∀ v ∈ vs, v.oneCell' = true) :
    (w.setCells g o vs).heap[g]? = some (.cells (layc cur o vs) t (0, 0)) := by
  rw [setCells_row w g o t cur vs hg hfit h1]
  exact setRow_heap w g cur _ t _ hg

theorem grown_setCells (w : World) (g o : Nat) (vs : List Value) : w.grownBy (w.setCells g o vs) (some g) := by
  induction vs generalizing w o with
  | nil => exact ⟨rfl, rfl, rfl, Nat.le_refl _, fun _ _ _ => rfl⟩
  | cons v vs ih =>
    rw [World.setCells]
    exact (grown_setCell w g o v).trans (ih _ _)

/-- copy, of elements of k cells. -/
theorem run_copy_many (w : World) (dT sT ty elem : TypeId) (k g o dLen dCap : Nat) (a : Addr) (sLen sCap : Nat) (cur : Array Value) (t : TypeId) (cs : List Value)
    (hu : Try.prog.underlying dT = some (.slice elem)) (hs : (Try.prog.info? elem).map (·.size) = some k)
    (hg : w.heap[g]? = some (.cells cur t (0, 0))) (hn : cs.length = Nat.min sLen dLen * k)
    (hsrc : ∀ j v, cs[j]? = some v → w.cell? (a.add j) = some v) (hfit : o + cs.length ≤ cur.size) (h1 : ∀ v ∈ cs, v.oneCell' = true) :
    (Builtin.copy_ #[dT, sT] ty #[.slice (some ⟨g, o, none⟩) dLen dCap, .slice (some a) sLen sCap]).run Try.prog w = .ok (goInt (Nat.min sLen dLen)) (w.setCells g o cs) := by
  have hl := run_loadCells_list (P := Try.prog) w a cs hsrc
  have hst := run_storeCells_at Try.prog g o t cs 0 cur w hg (by simpa using hfit) h1
  rw [setCells_row w g o t cur cs hg hfit h1]
  cases hq : Try.prog.info? elem with
  | none => simp [hq] at hs
  | some i =>
    have hi : i.size = k := by simpa [hq] using hs
    simp [Builtin.copy_, run_underlying hu, Builtin.lenOf, Builtin.firstCells, sizeOf, typeInfo, hq, hi, ← hn, hl, hst, layc]


theorem bits_mul (n : Nat) (hn : n ≤ 64) (w : World) : Calls Try.prog 61 #[.int .u64 1, .int .u64 n] w fun e w' => e = .returned (.tuple #[.int .u64 0, .int .u64 n]) ∧ w = w' := by
  have h := Any.bits_Mul Try.bitsMul 1 n (by omega) (by omega) w
  rw [show 1 * n / 18446744073709551616 = 0 by omega, show 1 * n % 18446744073709551616 = n by omega] at h
  exact h.mono fun e w' ⟨a, b⟩ => ⟨a, b.symm⟩

theorem made_block {W : World} {base g n c : Nat} {e : TypeId} {xs : List Value} (h : W.ownsRow base e 1 (.slice (some ⟨g, 0, none⟩) n c) n xs) : ∃ cur : Array Value, W.heap[g]? = some (.cells cur e (0, 0)) ∧ cur.size = c := by
  rcases h.2 with ⟨e, _⟩ | ⟨g', cap, cur, e, hb, hg, hn, hc, hs, hx⟩
  · cases e
  · injection e with e1 e2 e3
    injection e1 with e1
    injection e1 with e1
    subst e1 e3
    exact ⟨cur, hg, by rw [hs]; omega⟩
theorem grown_ext {w w' : World} (h : w.grownBy w' none) : Ext w w' := (Ext.refl w).grown h (fun j e => by cases e)

theorem size_int : (Try.prog.info? 3).map (·.size) = some 1 := by kernel_rfl

set_option maxRecDepth 100000 in
set_option maxHeartbeats 2000000 in
theorem ints_repeat (b n : Nat) (x : Int) (w : World) (hc : w.cell? ⟨b, 0, none⟩ = some (.int .i64 x)) (hn1 : 1 ≤ n) (hn2 : n ≤ 64) :
    Calls Try.prog 48 #[.slice (some ⟨b, 0, none⟩) 1 1, .int .i64 n] w fun e w' => e = .returned (.slice (some ⟨w.heap.size, 0, none⟩) n n) ∧ (∃ cur : Array Value, w'.heap[w.heap.size]? = some (.cells cur 3 (0, 0)) ∧ cur.size = n ∧ cur.toList = List.replicate n (.int .i64 x)) ∧ Ext w w' := by
  obtain ⟨i0, hi, hz0, hz1, hz2⟩ := info_parts info_int
  have Hi := Lib.hid hi
  have HM := Lib.hid (bits_mul n hn2)
  clear hi
  have hu1 : IntKind.u64.wrap (n : Int) = (n : Int) := by rw [IntKind.wrap_u64]; omega
  go_enter Try.func48, Try.ntmps48
  go_wp2_with fail
  refine (HM.out _).mono ?_
  rintro e w1 ⟨rfl, rfl⟩
  go_wp2_with (first
    | (refine wpList_make_full _ rfl (.tmp 29) (.tmp 29) 39 rfl w.heap.size 3 i0 (.int .i64 0) 1 Try.underlying39 Hi.out hz0 hz1 .i64 .i64 n n n rfl rfl rfl rfl (by rw [hz2]; omega) (by unfold maxLen; omega) (Nat.le_refl _) ?_; intro w2 hrow2 hgrow2; obtain ⟨cur, hg2, hsz⟩ := made_block hrow2; have gx := Lib.hid (grown_ext hgrow2); have hcp : ∀ ty dc sc, (Builtin.copy_ #[39, 39] ty #[.slice (some ⟨w.heap.size, 0, none⟩) n dc, .slice (some ⟨b, 0, none⟩) 1 sc]).run Try.prog w2 = .ok (.int .i64 1) (w2.setCells w.heap.size 0 [.int .i64 x]) := fun ty dc sc => (run_copy_many w2 39 39 ty 3 1 w.heap.size 0 n dc ⟨b, 0, none⟩ 1 sc cur 3 [.int .i64 x] Try.underlying39 size_int hg2 (by rw [show Nat.min 1 n = 1 by simp only [Nat.min_def]; split <;> omega]; rfl) (by intro j u hj; match j, hj with | 0, hj => simp at hj; rw [← hj, show ((⟨b, 0, none⟩ : Addr).add 0) = ⟨b, 0, none⟩ from by simp [Addr.add]]; exact gx.out.cell hc) (by simp; omega) (by intro u hu; simp at hu; rw [hu]; rfl)).trans (by rw [show Nat.min 1 n = 1 by simp only [Nat.min_def]; split <;> omega]; rfl); have HG2 := Lib.hid hg2; have HSZ := Lib.hid hsz; clear hg2 hsz hrow2 hgrow2))
  have hg3 := heap_setCells w2 w.heap.size 0 3 cur [.int .i64 x] HG2.out (by rw [HSZ.out]; simp; omega) (by intro u hu; simp at hu; rw [hu]; rfl)
  have hc3 : (layc cur 0 [.int .i64 x]).size = n := by rw [layc_size _ _ _ (by rw [HSZ.out]; simp; omega)]; exact HSZ.out
  have ht3 : (layc cur 0 [.int .i64 x]).toList.take 1 = List.replicate 1 (.int .i64 x) := by
    have := layc_past cur 0 [.int .i64 x] (by rw [HSZ.out]; simp; omega)
    exact this
  have gx3 : Ext w (w2.setCells w.heap.size 0 [.int .i64 x]) := ext_grownBy gx.out (grown_setCells _ _ _ _) (Nat.le_refl _)
  generalize w2.setCells w.heap.size 0 [.int .i64 x] = w4 at *
  generalize layc cur 0 [.int .i64 x] = cur4 at *
  have H4 := Lib.hid (And.intro hg3 (And.intro hc3 (And.intro ht3 gx3)))
  clear hg3 hc3 ht3 gx3 hcp
  go_loopw [8] (fun i wr => ∃ (m : Nat) (cr : Array Value), 1 ≤ m ∧ m ≤ n ∧ i = .int .i64 m ∧ Hid (wr.heap[w.heap.size]? = some (.cells cr 3 (0, 0)) ∧ cr.size = n ∧ cr.toList.take m = List.replicate m (.int .i64 x) ∧ Ext w wr)) (fun i _ => n - (intOf i).toNat)
  case atStart => exact ⟨1, cur4, by omega, by omega, rfl, H4⟩
  case round =>
    obtain ⟨m, cr, hm1, hm2, rfl, H5⟩ := hrel
    by_cases hlt : m < n
    · obtain ⟨k, hk⟩ : ∃ k, Nat.min m (n - m) = k := ⟨_, rfl⟩
      have hk1 : 1 ≤ k ∧ m + k ≤ n := by rw [← hk]; simp only [Nat.min_def]; split <;> omega
      have hsrc : ∀ j u, (List.replicate k (Value.int .i64 x))[j]? = some u → wr.drew.cell? ((⟨w.heap.size, 0, none⟩ : Addr).add j) = some u := by
        intro j u hj
        have hjk : j < k := by
          have := (List.getElem?_eq_some_iff.1 hj).1
          rw [List.length_replicate] at this
          exact this
        have hu : u = .int .i64 x := by
          rw [List.getElem?_replicate, if_pos hjk] at hj
          injection hj with hj
          exact hj.symm
        have hcell := (cell_row (i := j) H5.out.1).1
        have e : (⟨w.heap.size, 0, none⟩ : Addr).add j = ⟨w.heap.size, j, none⟩ := by rw [Addr.add_lit, Nat.zero_add]
        rw [e]
        show wr.cell? _ = _
        have hjm : j < m := by
          have : k ≤ m := by rw [← hk]; exact Nat.min_le_left _ _
          omega
        rw [hcell, hu, ← Array.getElem?_toList]
        have h6 := congrArg (fun l : List Value => l[j]?) H5.out.2.2.1
        simp only [List.getElem?_take, List.getElem?_replicate, if_pos hjm] at h6
        exact h6
      have hcp : ∀ ty dc sc, (Builtin.copy_ #[39, 39] ty #[.slice (some ⟨w.heap.size, m, none⟩) (n - m) dc, .slice (some ⟨w.heap.size, 0, none⟩) m sc]).run Try.prog wr.drew = .ok (.int .i64 (k : Int)) (wr.drew.setCells w.heap.size m (List.replicate k (.int .i64 x))) := fun ty dc sc =>
        (run_copy_many wr.drew 39 39 ty 3 1 w.heap.size m (n - m) dc ⟨w.heap.size, 0, none⟩ m sc cr 3 (List.replicate k (.int .i64 x)) Try.underlying39 size_int H5.out.1 (by rw [hk, List.length_replicate, Nat.mul_one]) hsrc (by rw [List.length_replicate, H5.out.2.1]; exact hk1.2) (by intro u hu; rw [(List.mem_replicate.1 hu).2]; rfl)).trans (by rw [hk]; rfl)
      have hfit : m + (List.replicate k (Value.int .i64 x)).length ≤ cr.size := by rw [List.length_replicate, H5.out.2.1]; exact hk1.2
      have h6 : Hid ((wr.drew.setCells w.heap.size m (List.replicate k (.int .i64 x))).heap[w.heap.size]? = some (.cells (layc cr m (List.replicate k (.int .i64 x))) 3 (0, 0)) ∧ (layc cr m (List.replicate k (.int .i64 x))).size = n ∧ (layc cr m (List.replicate k (.int .i64 x))).toList.take (m + k) = List.replicate (m + k) (.int .i64 x) ∧ Ext w (wr.drew.setCells w.heap.size m (List.replicate k (.int .i64 x)))) := by
        refine ⟨heap_setCells wr.drew _ _ _ cr _ H5.out.1 hfit (by intro u hu; rw [(List.mem_replicate.1 hu).2]; rfl), by rw [layc_size _ _ _ hfit]; exact H5.out.2.1, ?_, ext_grownBy H5.out.2.2.2.drew (grown_setCells _ _ _ _) (Nat.le_refl _)⟩
        have := layc_past cr m (List.replicate k (.int .i64 x)) hfit
        rw [List.length_replicate, H5.out.2.2.1, List.replicate_append_replicate] at this
        exact this
      generalize wr.drew.setCells w.heap.size m (List.replicate k (.int .i64 x)) = w6 at *
      generalize layc cr m (List.replicate k (.int .i64 x)) = cr6 at *
      have HCP := Lib.hid hcp
      have hw1 : IntKind.i64.wrap ((m : Int) + (k : Int)) = (m : Int) + (k : Int) := IntWalk.i64_in _ ⟨by omega, by omega⟩
      have hbd1 : (m : Int) ≤ (n : Int) := by omega
      have hbd2 : (0 : Int) ≤ (m : Int) := by omega
      have hbd4 : ¬ (n = m) := by omega
      have hbd5 : ¬ (m = n) := by omega
      clear hk hsrc hcp hfit
      go_wp2_with fail
      refine wp_region_noPanic ?_
      have hcp2 := HCP.out
      go_region
      all_goals
        refine NoPanic.normal ?_
        go_wp2
        go_roundw
        case rel => exact ⟨m + k, cr6, by omega, hk1.2, by first | rfl | go_num, h6⟩
        case measure => simp [intOf]; omega
    · obtain rfl : m = n := by omega
      clear hu1
      go_wp2
      go_ret
      refine ⟨rfl, ⟨cr, H5.out.1, H5.out.2.1, ?_⟩, H5.out.2.2.2⟩
      have h9 := H5.out.2.2.1
      rw [List.take_of_length_le (by rw [Array.length_toList, H5.out.2.1]; exact Nat.le_refl _)] at h9
      exact h9
end Go.Proofs.Ytcckdogcjjimoaa
