/- The chapter's examples hold, and which rows of texts are great. -/
import Derived.Test.YthkccaifabpleaaWalScan
import Derived.Test.YthkccaifabpleaaWalRefScan
import Derived.Test.YthkccaifabpleaaWalCuts
import Derived.Test.YthkccaifabpleaaSameTexts
namespace Go.Proofs.Ythkccaifabpleaa
open Go.RowKit

/-- A row of a call's own, as texts. -/
theorem texts_own {W : World} {base : Nat} {p : Option Addr} {n c : Nat} {L : List (List UInt8)} (h : W.ownsRow base 9 1 (.slice p n c) n (texts L)) (hn : L.length = n) (hs : ∀ s ∈ L, s.length ≤ maxLen) :
    Texts W p n (L.map str) := by
  obtain ⟨h1, h2⟩ := h
  refine ⟨by rw [List.length_map]; exact hn, ?_, ?_, ?_⟩
  · rcases h2 with ⟨hv, rfl⟩ | ⟨g, cap, cur, hv, hg, hh, hc, hm, _⟩
    · unfold maxLen; omega
    · omega
  · intro s hs1
    obtain ⟨x, hx, rfl⟩ := List.mem_map.1 hs1
    exact hs x hx
  · rcases h2 with ⟨hv, rfl⟩ | ⟨g, cap, cur, hv, hg, hh, hc, hm, hsz, ht⟩
    · exact .inl rfl
    · right
      injection hv with hv1 _ _
      refine ⟨g, 0, hv1, fun i hi => ?_⟩
      rw [List.length_map] at hi
      have hic : i < cur.size := by omega
      unfold World.cell?
      simp only [hh, Nat.zero_add]
      have e1 : cur[i]? = (cur.toList.take (n * 1))[i]? := by rw [List.getElem?_take_of_lt (by omega)]; simp
      rw [ht] at e1
      rw [if_neg (by simp), e1, texts]
      simp [List.getElem?_map, List.getElem?_eq_getElem hi]

theorem scan_example : Wal.scan (Wal.frame (0 : Nat) [97, 98] ++ [120]) 0 = ([[97, 98]], (Wal.frame (0 : Nat) [97, 98]).length) := by
  rw [Wal.scan_some (Wal.scan1_frame (by omega) _ _ (by simp)), List.drop_left]
  have h : Count.takeL [120] = (120, 1, 0) := by
    have := Count.take_put 120 [] (by omega)
    rw [Count.put_small (by omega)] at this
    exact this
  rw [Wal.scan_none (Wal.scan1_err (n := 0 + 1) h (.inr (by omega)))]
  simp

theorem frame_example : Wal.frame (0 : Nat) [97, 98] = 0 :: 2 :: 97 :: 98 :: Crc.le4 (Crc.sum [0, 2, 97, 98]) := by
  rw [Wal.frame_eq (by omega), Count.put_small (by omega), Count.put_small (by simp)]
  rfl

theorem frame_at (n : Int) (s : ByteArray) (l f : List UInt8) (hl : s.data.toList = l) (hf : Wal.frame n l = f) (w : World) (hs : s.size ≤ 1000000) :
    Calls Try.prog 9 #[.int .i64 n, .string s] w fun e w' => e = .returned (.string (str f)) ∧ Ext w w' := by
  subst hl hf; exact frame_any n s w hs

theorem scan_at (b : ByteArray) (l : List UInt8) (o : List (List UInt8) × Nat) (hl : b.data.toList = l) (ho : Wal.scan l 0 = o) (w : World) (hs : b.size ≤ 1000000) :
    Calls Try.prog 11 #[.string b] w fun e w' => ∃ v, e = .returned (.tuple #[v, .int .i64 (o.2 : Int)]) ∧
      w'.ownsRow w.heap.size 9 1 v o.1.length (texts o.1) ∧ Ext w w' := by subst hl ho; exact scan_any b w hs

set_option maxRecDepth 100000 in
set_option maxHeartbeats 400000 in
theorem wal_awake (w : World) : Calls Try.prog 8 #[] w fun e w' => e = .returned (.bool true) ∧ Ext w w' := by
  obtain ⟨c0, c1, c2, c3, hc⟩ : ∃ c0 c1 c2 c3, Crc.le4 (Crc.sum [0, 2, 97, 98]) = [c0, c1, c2, c3] := ⟨_, _, _, _, rfl⟩
  have hf := frame_example
  rw [hc] at hf
  have hs := scan_example
  rw [hf] at hs
  have HF := Lib.hid hf
  have HS := Lib.hid hs
  clear hc hf hs
  go_enter Try.func8, Try.ntmps8
  go_wp2_with fail
  refine (frame_at _ _ [97, 98] _ rfl HF.out _ (by decide)).mono ?_
  rintro e w1 ⟨rfl, h1⟩
  have hcat : str [0, 2, 97, 98, c0, c1, c2, c3] ++ ⟨#[120]⟩ = str ([0, 2, 97, 98, c0, c1, c2, c3] ++ [120]) := append_str _ _
  have HC := Lib.hid hcat
  clear hcat
  go_wp2_with fail
  refine (scan_at _ _ _ (by rw [HC.out]; rfl) HS.out _ (by rw [HC.out]; show 9 ≤ 1000000; omega)).mono ?_
  rintro e w2 ⟨v, rfl, hrow, h2⟩
  obtain ⟨p, c, rfl⟩ := ownsRow_slice hrow
  have ht := texts_own hrow rfl (by simp [maxLen])
  obtain ⟨_, _, _, h3 | ⟨b, off, rfl, hx⟩⟩ := ht
  · simp at h3
  have hx0 := hx 0 (by simp)
  simp only [List.map_cons, List.map_nil, List.getElem_cons_zero, Nat.add_zero] at hx0
  have q0 : (str [0, 2, 97, 98, c0, c1, c2, c3]).extract 0 4 = ⟨#[0, 2, 97, 98]⟩ := by
    apply ByteArray.ext; apply Array.toList_inj.1; rw [Lib.extract_data]; rfl
  have hsz : (str [0, 2, 97, 98, c0, c1, c2, c3]).size = 8 := rfl
  have hx1 : w2.cell? ⟨b, off, none⟩ = some (.string ⟨#[97, 98]⟩) := hx0
  clear hx0 hx hrow
  go_wp2
  go_ret
  exact ⟨by first | rfl | trace_state, h1.trans h2⟩

/-- What is not great. -/
def Small (l : List ByteArray) : Prop := l.length ≤ 40 ∧ (l.map fun s => s.data.toList).flatten.length ≤ 20000

set_option maxRecDepth 100000 in
set_option maxHeartbeats 400000 in
theorem great_any (p : Option Addr) (n c : Nat) (l : List ByteArray) (w : World) (hx : Texts w p n l) (hz : ∀ s ∈ l, s.size ≤ 140737488351232) :
    Calls Try.prog 14 #[.slice p n c] w fun e w' => ∃ r, e = .returned (.bool r) ∧ Ext w w' ∧ (r = false → Small l) := by
  obtain ⟨x1, x2, x3, x4⟩ := hx
  unfold maxLen at x2
  have HX : Hid (n = 0 ∨ ∃ b off, p = some ⟨b, off, none⟩ ∧ StrsAt w b off l) := x4
  have H3 : Hid (∀ s ∈ l, s.size ≤ 140737488351232) := hz
  clear x3 x4 hz
  go_enter Try.func14, Try.ntmps14
  go_wp2
  go_loopw [3, 4] (fun s i wr => ∃ k m : Nat, k ≤ n ∧ k ≤ 40 ∧ m ≤ 20000 ∧ i = .int .i64 k ∧ s = .int .i64 m ∧ m = ((l.take k).map fun s => s.data.toList).flatten.length ∧ Ext w wr) (fun _ i _ => n - (intOf i).toNat)
  case atStart => exact ⟨0, 0, by omega, by omega, by omega, rfl, rfl, by simp, Ext.refl _⟩
  case round =>
    obtain ⟨k, m, hk, hk40, hm2, rfl, rfl, hm, he⟩ := hrel
    by_cases hlt : k < n
    · have hlk : k < l.length := by omega
      have hms := H3.out l[k] (List.getElem_mem hlk)
      obtain ⟨b, off, rfl, hs⟩ : ∃ b off, p = some ⟨b, off, none⟩ ∧ StrsAt w b off l := by
        rcases HX.out with h | h
        · omega
        · exact h
      have h1 := he.cell (hs k hlk)
      have hnext : ((l.take (k + 1)).map fun s => s.data.toList).flatten.length = m + l[k].size := by
        rw [List.take_succ_eq_append_getElem hlk]; simp only [List.map_append, List.flatten_append, List.length_append, List.map_cons, List.map_nil, List.flatten_cons, List.flatten_nil, List.append_nil]; rw [hm]; rfl
      generalize l[k] = s at h1 hms hnext
      have HN := Lib.hid hnext
      clear hnext hm hs
      by_cases h40 : k < 40
      · by_cases hsum : m + s.size ≤ 20000
        · go_wp2
          go_roundw
          case rel => exact ⟨k + 1, m + s.size, by omega, by omega, by omega, by go_num, by go_num, HN.out.symm, he⟩
          case measure => simp [intOf]; omega
        · go_wp2
          go_ret
          exact ⟨_, rfl, he, fun h => by cases h⟩
      · obtain rfl : k = 40 := by omega
        go_wp2
        go_ret
        exact ⟨_, rfl, he, fun h => by cases h⟩
    · obtain rfl : k = n := by omega
      have hsm : Small l := by
        refine ⟨by omega, ?_⟩
        rw [List.take_of_length_le (by omega)] at hm
        omega
      clear hm
      go_wp2
      go_ret
      exact ⟨_, rfl, he, fun _ => hsm⟩

end Go.Proofs.Ythkccaifabpleaa
