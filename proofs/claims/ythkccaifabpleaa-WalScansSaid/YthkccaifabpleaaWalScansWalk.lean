/- The walk of WalScans. -/
import Derived.Test.YthkccaifabpleaaWalLaw
namespace Go.Proofs.Ythkccaifabpleaa
open Go.RowKit

theorem refScan_at (b : ByteArray) (l : List UInt8) (o : List (List UInt8) × Nat) (hl : b.data.toList = l) (ho : Wal.scan l 0 = o) (w : World) (hs : b.size ≤ 1000000) :
    Calls Try.prog 12 #[.string b] w fun e w' => ∃ v, e = .returned (.tuple #[v, .int .i64 (o.2 : Int)]) ∧
      w'.ownsRow w.heap.size 9 1 v o.1.length (texts o.1) ∧ Ext w w' := by subst hl ho; exact refScan_any b w hs

theorem scan_small (b : List UInt8) (n : Nat) : (∀ s ∈ (Wal.scan b n).1, s.length ≤ b.length) ∧ (Wal.scan b n).2 ≤ b.length := by
  induction hk : b.length using Nat.strongRecOn generalizing b n with
  | _ m ih =>
    rcases Wal.scan1_cases b n with h | ⟨s, k, h, h5, hkl, hsk, _, _⟩
    · rw [Wal.scan_none h]; simp
    · rw [Wal.scan_some h]
      have := ih (b.drop k).length (by rw [List.length_drop]; omega) (b.drop k) (n + 1) rfl
      rw [List.length_drop] at this
      refine ⟨fun t ht => ?_, by simp only; omega⟩
      rcases List.mem_cons.1 ht with rfl | ht
      · omega
      · have := this.1 t ht; omega

set_option maxRecDepth 100000 in
set_option maxHeartbeats 400000 in
theorem walScans_walk (b : ByteArray) (w : World) (hz : b.size ≤ maxLen) :
    Calls Try.prog 4 #[.string b] w fun e w' => e = .returned (.bool true) ∧ Ext w w' := by
  unfold maxLen at hz
  by_cases hs : b.size ≤ 20000
  · obtain ⟨hsm1, hsm2⟩ := scan_small b.data.toList 0
    rw [show b.data.toList.length = b.size from rfl] at hsm1 hsm2
    obtain ⟨L, k, hf⟩ : ∃ L k, Wal.scan b.data.toList 0 = (L, k) := ⟨_, _, rfl⟩
    rw [hf] at hsm1 hsm2
    simp only at hsm1 hsm2
    have hmx : ∀ s ∈ L, s.length ≤ maxLen := fun s hs1 => by have := hsm1 s hs1; unfold maxLen; omega
    have HF := Lib.hid hf
    have hkk : ((k : Int) == (k : Int)) = true := by simp
    clear hf hsm1
    go_enter Try.func4, Try.ntmps4
    go_wp2_with fail
    refine (scan_at b _ _ rfl HF.out _ (by omega)).mono ?_
    rintro e w1 ⟨v, rfl, hrow, h1⟩
    obtain ⟨p, c, rfl⟩ := ownsRow_slice hrow
    have ht1 := texts_own hrow rfl hmx
    clear hrow
    go_wp2_with fail
    refine (refScan_at b _ _ rfl HF.out _ (by omega)).mono ?_
    rintro e w2 ⟨v, rfl, hrow, h2⟩
    obtain ⟨q, d, rfl⟩ := ownsRow_slice hrow
    have ht2 := texts_own hrow rfl hmx
    clear hrow
    go_wp2_with fail
    refine (same_texts p q _ _ c d _ _ (ht1.ext h2) ht2).mono ?_
    rintro e w3 ⟨rfl, h3⟩
    go_wp2_with fail
    refine (wal_awake _).mono ?_
    rintro e w4 ⟨rfl, h4⟩
    go_wp2
    go_ret
    exact ⟨rfl, ((h1.trans h2).trans h3).trans h4⟩
  · go_enter Try.func4, Try.ntmps4
    go_wp2_with fail
    refine (wal_awake _).mono ?_
    rintro e w3 ⟨rfl, h3⟩
    go_wp2
    go_ret
    exact ⟨rfl, h3⟩

end Go.Proofs.Ythkccaifabpleaa
