/- What Scan answers: the records of bytes, and where they end. -/
import Derived.Test.YthkccaifabpleaaWalFirst
import Derived.Test.YthkccaifabpleaaWalFrame
import Derived.OwnWalk
import Derived.Maps.AppendAt
import Derived.ScopeJumps
import Derived.RangeFuncBox
namespace Go.Proofs.Ythkccaifabpleaa
open Go.RowKit

theorem info_str : (Try.prog.info? 9).map (fun i => (i.zero, i.size, i.bytes)) = some (some (.string ByteArray.empty), 1, 16) := by kernel_rfl

/-- Texts, as cells. -/
def texts (l : List (List UInt8)) : List Value := l.map fun x => .string (str x)

/-- A row that is owned is a slice. -/
theorem ownsRow_slice {W : World} {base : Nat} {e : TypeId} {size : Nat} {v : Value} {n : Nat} {xs : List Value} (h : W.ownsRow base e size v n xs) : ∃ p c, v = .slice p n c := by
  rcases h.2 with ⟨rfl, rfl⟩ | ⟨g, cap, cur, rfl, _⟩
  · exact ⟨_, _, rfl⟩
  · exact ⟨_, _, rfl⟩

theorem own_block_ge {W : World} {base : Nat} {e : TypeId} {size : Nat} {v : Value} {n : Nat} {xs : List Value} (h : W.ownsRow base e size v n xs) : ∀ k, v.ownBlock = some k → base ≤ k := by
  intro k ek
  rcases h.2 with ⟨rfl, _⟩ | ⟨g, cap, cur, rfl, hb, _⟩
  · simp [Value.ownBlock] at ek
  · obtain rfl : g = k := by simpa [Value.ownBlock] using ek
    exact hb

/-- What is owned stays owned where the world grows at most. -/
theorem ownsRow_ext {W W' : World} {base : Nat} {e : TypeId} {size : Nat} {v : Value} {n : Nat} {xs : List Value} (h : W.ownsRow base e size v n xs) (he : Ext W W') : W'.ownsRow base e size v n xs := by
  obtain ⟨h1, h2⟩ := h
  refine ⟨h1, ?_⟩
  rcases h2 with h2 | ⟨g, cap, cur, hv, hg, hh, r⟩
  · exact .inl h2
  · exact .inr ⟨g, cap, cur, hv, hg, (he.block (Array.getElem?_eq_some_iff.1 hh).1).trans hh, r⟩

theorem scan_goes {b : List UInt8} {g k : Nat} {L : List (List UInt8)} {s : List UInt8}
    (h : Wal.scan b 0 = (L ++ (Wal.scan (b.drop g) L.length).1, g + (Wal.scan (b.drop g) L.length).2))
    (h2 : Wal.scan (b.drop g) L.length = (s :: (Wal.scan ((b.drop g).drop k) (L.length + 1)).1, k + (Wal.scan ((b.drop g).drop k) (L.length + 1)).2)) :
    Wal.scan b 0 = ((L ++ [s]) ++ (Wal.scan (b.drop (g + k)) (L ++ [s]).length).1, (g + k) + (Wal.scan (b.drop (g + k)) (L ++ [s]).length).2) := by
  rw [h, h2, List.drop_drop, List.length_append]
  simp only [List.length_singleton, List.append_assoc, List.singleton_append, Nat.add_assoc]

def ScanInv (b : ByteArray) (w : World) (v : Value) (g : Nat) (L : List (List UInt8)) (W : World) : Prop :=
  W.ownsRow w.heap.size 9 1 v L.length (texts L) ∧ Ext w W ∧ g ≤ b.size ∧ L.length ≤ g ∧
    Wal.scan b.data.toList 0 = (L ++ (Wal.scan (b.data.toList.drop g) L.length).1, g + (Wal.scan (b.data.toList.drop g) L.length).2)

def ScanJ (b : ByteArray) (w : World) (a : Act) (W : World) : Prop :=
  ∃ (v : Value) (g : Nat) (L : List (List UInt8)) (u6 u7 u8 u9 u10 u11 u12 u13 u14 u15 u16 u17 u18 u19 u20 u21 u22 u23 u24 u25 u26 u27 : Value), a = { tmps := #[.string b, undef, .slice none 0 0, .int .i64 0, v, .int .i64 (g : Int), u6, u7, u8, u9, u10, u11, u12, u13, u14, u15, u16, u17, u18, u19, u20, u21, u22, u23, u24, u25, u26, u27], defers := [] } ∧ ScanInv b w v g L W

theorem first_zero (b : ByteArray) (w : World) (hs : b.size ≤ 1000000) :
    Calls Try.prog 24 #[.string b, .int .i64 0] w fun e w' => e = .returned (firstV (Wal.scan1 b.data.toList 0)) ∧ Ext w w' := first_any b 0 w hs

set_option maxRecDepth 100000 in
set_option maxHeartbeats 2000000 in
theorem scan_any (b : ByteArray) (w : World) (hs : b.size ≤ 1000000) :
    Calls Try.prog 11 #[.string b] w fun e w' => ∃ v, e = .returned (.tuple #[v, .int .i64 ((Wal.scan b.data.toList 0).2 : Int)]) ∧
      w'.ownsRow w.heap.size 9 1 v (Wal.scan b.data.toList 0).1.length (texts (Wal.scan b.data.toList 0).1) ∧ Ext w w' := by
  obtain ⟨i0, hi, hz0, hz1, hz2⟩ := info_parts info_str
  have Hi := Lib.hid hi
  clear hi
  go_enter Try.func11, Try.ntmps11
  go_wp2
  refine wp_scope_jumps 0 (ScanJ b w) (fun a' _ => 1000000 - (intOf (a'.tmps.getD 5 undef)).toNat) rfl ?_ ?_
  · go_wp2
    go_step3
    have hbl : b.data.toList.length = b.size := rfl
    have hrow : w.ownsRow w.heap.size 9 1 (.slice none 0 0) ([] : List (List UInt8)).length (texts []) := World.ownsRow_nil _ _ _ _
    have hE : Ext w w := Ext.refl w
    go_wp2_with fail
    refine (first_zero b _ hs).mono ?_
    rintro e w1 ⟨rfl, h1⟩
    have hc1 := Wal.scan1_cases b.data.toList 0
    have hE1 := hE.trans h1
    have hrow1 := ownsRow_ext hrow h1
    clear hrow hE
    rcases hc1 with h0 | ⟨s, k, h0, hk5, hkl, hsk, _, _⟩
    · rw [h0]
      have hno := Wal.scan_none h0
      have HNO := Lib.hid hno
      clear hno h0
      simp only [firstV]
      go_wp2
      (try simp only [Exit.jump])
      go_ret2
      rw [HNO.out]
      exact ⟨_, rfl, hrow1, hE1⟩
    · rw [h0]
      rw [hbl] at hkl
      have hso := Wal.scan_some h0
      have HSO := Lib.hid hso
      clear hso h0
      simp only [firstV]
      have b1 : ([] : List (List UInt8)).length + 1 ≤ maxLen := by unfold maxLen; simp
      have b2 : (([] : List (List UInt8)).length + 1) * 16 ≤ 140737488355328 := by simp
      have b3 : w.heap.size ≤ (w1.alloc (.cells #[.string (str s)] 9)).heap.size := by rw [World.size_alloc]; have := hE1.size; omega
      go_wp2_with (at_builtin; refine wpList_append_own _ rfl _ _ 25 rfl w.heap.size 9 i0 (.string ByteArray.empty) 1 16 Try.underlying25 Hi.out hz0 hz1 hz2 rfl (by decide) _ _ _ rfl (hrow1.alloc _) ⟨w1.heap.size, 0, none⟩ 1 1 [.string (str s)] rfl rfl (cell_one_new _ _ _) (by simp [Value.oneCell']) b1 b2 b3 ?_; intro v' w2 hown' hgrow _)
      go_step3
      have hE2 : Ext w w2 := (hE1.alloc _).grown hgrow (own_block_ge hrow1)
      refine ⟨rfl, _, k, [s], _, _, _, _, _, _, _, _, _, _, _, _, _, _, _, _, _, _, _, _, _, _, by first | rfl | (go_num; rfl), by simpa [texts] using hown', hE2, by omega, by simp; omega, by rw [HSO.out]; rfl⟩
  · rintro a' wr ⟨v, g, L, u6, u7, u8, u9, u10, u11, u12, u13, u14, u15, u16, u17, u18, u19, u20, u21, u22, u23, u24, u25, u26, u27, rfl, hrow, hE, hg, hLg, hscan⟩
    have hbl : b.data.toList.length = b.size := rfl
    obtain ⟨p, c, rfl⟩ := ownsRow_slice hrow
    have he2 : (b.extract g b.size).size ≤ 1000000 := by rw [ByteArray.size_extract]; omega
    go_wp2_with fail
    refine (first_any (b.extract g b.size) L.length _ he2).mono ?_
    rintro e w1 ⟨rfl, h1⟩
    rw [drop_data]
    have hc1 := Wal.scan1_cases (b.data.toList.drop g) L.length
    have hE1 := hE.trans h1
    have hrow1 := ownsRow_ext hrow h1
    clear hrow hE he2
    rcases hc1 with h0 | ⟨s, k, h0, hk5, hkl, hsk, _, _⟩
    · rw [h0]
      have hsc := Lib.hid hscan
      clear hscan
      have hno := Wal.scan_none h0
      have HNO := Lib.hid hno
      clear hno h0
      simp only [firstV]
      go_wp2
      (try simp only [Exit.jump])
      go_ret2
      rw [hsc.out, HNO.out, List.append_nil, Nat.add_zero]
      exact ⟨_, rfl, hrow1, hE1⟩
    · rw [h0]
      rw [List.length_drop] at hkl
      have hsc := Lib.hid hscan
      clear hscan
      have hso := Wal.scan_some h0
      have HSO := Lib.hid hso
      clear hso h0
      simp only [firstV]
      have hL : L.length ≤ 1000000 := by omega
      have b1 : L.length + 1 ≤ maxLen := by unfold maxLen; omega
      have b2 : (L.length + 1) * 16 ≤ 140737488355328 := by omega
      have b3 : w.heap.size ≤ (w1.alloc (.cells #[.string (str s)] 9)).heap.size := by rw [World.size_alloc]; have := hE1.size; omega
      go_wp2_with (at_builtin; refine wpList_append_own _ rfl _ _ 25 rfl w.heap.size 9 i0 (.string ByteArray.empty) 1 16 Try.underlying25 Hi.out hz0 hz1 hz2 rfl (by decide) _ _ _ rfl (hrow1.alloc _) ⟨w1.heap.size, 0, none⟩ 1 1 [.string (str s)] rfl rfl (cell_one_new _ _ _) (by simp [Value.oneCell']) b1 b2 b3 ?_; intro v' w2 hown' hgrow _)
      go_step3
      have hE2 : Ext w w2 := (hE1.alloc _).grown hgrow (own_block_ge hrow1)
      refine ⟨rfl, ⟨_, g + k, L ++ [s], _, _, _, _, _, _, _, _, _, _, _, _, _, _, _, _, _, _, _, _, _, _, by first | rfl | (go_num; rfl), by simpa [texts] using hown', hE2, by omega, by rw [List.length_append]; simp; omega, scan_goes hsc.out HSO.out⟩, by simp [intOf]; omega⟩

end Go.Proofs.Ythkccaifabpleaa
