/- What is drawn may be: plain. -/
import Derived.Test.YtcnjklbmlplehaaLawDAll
namespace Go.Proofs.Ytcnjklbmlplehaa
open Go.RowKit

namespace DR
/-- An operation that may be, of peers and links that there are. -/
structure OkOp (n : Nat) (adj : Nat → Nat → Bool) (x : OpV) : Prop where
  kind : 0 ≤ x.kind ∧ x.kind < 13
  peer : 0 ≤ x.peer ∧ x.peer < n
  tow : 0 ≤ x.to ∧ x.to < n
  num : 0 ≤ x.n ∧ x.n ≤ 70
  at_ : 0 ≤ x.at_ ∧ x.at_ ≤ 60
  mask : 0 ≤ x.mask ∧ x.mask ≤ 1048576
  path : x.path.size ≤ 5
  data : x.data.size ≤ 1
  bt : ¬ (4 ≤ x.kind ∧ x.kind ≤ 7) → x.to = 0
  bn : ¬ (2 ≤ x.kind ∧ x.kind ≤ 9) → x.n = 0
  ba : ¬ (x.kind = 7 ∨ x.kind = 9) → x.at_ = 0
  bm : x.kind ≠ 7 → x.mask = 0
  bp : ¬ x.kind < 2 → x.path = ⟨#[]⟩
  bd : x.kind ≠ 0 → x.data = ⟨#[]⟩
  link : 4 ≤ x.kind ∧ x.kind ≤ 7 → adj x.peer.toNat x.to.toNat = true
  way : x.kind < 2 → ∃ s, x.path = pathOf s

/-- What the drawing of numbers leaves. -/
structure NumOk (x y : OpV) : Prop where
  kind : y.kind = x.kind
  peer : y.peer = x.peer
  tow : y.to = x.to
  path : y.path = x.path
  data : y.data = x.data
  num : 0 ≤ y.n ∧ y.n ≤ 70
  at_ : 0 ≤ y.at_ ∧ y.at_ ≤ 60
  mask : 0 ≤ y.mask ∧ y.mask ≤ 1048576
  bn : ¬ (2 ≤ y.kind ∧ y.kind ≤ 9) → y.n = 0
  ba : ¬ (y.kind = 7 ∨ y.kind = 9) → y.at_ = 0
  bm : y.kind ≠ 7 → y.mask = 0
theorem zz70 : (0 : Int) ≤ 0 ∧ (0 : Int) ≤ 70 := by decide
theorem zz60 : (0 : Int) ≤ 0 ∧ (0 : Int) ≤ 60 := by decide
theorem zzM : (0 : Int) ≤ 0 ∧ (0 : Int) ≤ 1048576 := by decide
theorem numb_ok (s : Int) (k p t : Int) (pa da : ByteArray) : NumOk ⟨k, p, t, 0, 0, 0, pa, da⟩ (numb s ⟨k, p, t, 0, 0, 0, pa, da⟩).1 := by
  have h70 := bel_bounds s 70 (by omega)
  have h64 := bel_bounds s 64 (by omega)
  have h8 := bel_bounds s 8 (by omega)
  have h5 := bel_bounds s 5 (by omega)
  have h2 := bel_bounds s 2 (by omega)
  have h60 := bel_bounds (nxt s) 60 (by omega)
  have hm := bel_bounds (nxt (nxt s)) 1048576 (by omega)
  unfold numb
  simp only
  split
  · exact ⟨rfl, rfl, rfl, rfl, rfl, by show 0 ≤ 1 + bel s 70 ∧ 1 + bel s 70 ≤ 70; omega, zz60, zzM, fun h => absurd (show 2 ≤ k ∧ k ≤ 9 by omega) h, fun _ => rfl, fun _ => rfl⟩
  split
  · exact ⟨rfl, rfl, rfl, rfl, rfl, by show 0 ≤ bel s 64 ∧ bel s 64 ≤ 70; omega, zz60, zzM, fun h => absurd (show 2 ≤ k ∧ k ≤ 9 by omega) h, fun _ => rfl, fun _ => rfl⟩
  split
  · exact ⟨rfl, rfl, rfl, rfl, rfl, by show 0 ≤ bel s 8 ∧ bel s 8 ≤ 70; omega, zz60, zzM, fun h => absurd (show 2 ≤ k ∧ k ≤ 9 by omega) h, fun _ => rfl, fun _ => rfl⟩
  split
  · rename_i h9
    exact ⟨rfl, rfl, rfl, rfl, rfl, by show 0 ≤ bel s 5 ∧ bel s 5 ≤ 70; omega, by show 0 ≤ bel (nxt s) 60 ∧ bel (nxt s) 60 ≤ 60; omega, zzM, fun h => absurd (show 2 ≤ k ∧ k ≤ 9 by omega) h, fun h => absurd (show k = 7 ∨ k = 9 from .inr h9) h, fun _ => rfl⟩
  split
  · exact ⟨rfl, rfl, rfl, rfl, rfl, by show 0 ≤ bel s 2 ∧ bel s 2 ≤ 70; omega, zz60, zzM, fun h => absurd (show 2 ≤ k ∧ k ≤ 9 by omega) h, fun _ => rfl, fun _ => rfl⟩
  split
  · rename_i h7
    exact ⟨rfl, rfl, rfl, rfl, rfl, by show 0 ≤ bel s 2 ∧ bel s 2 ≤ 70; omega, by show 0 ≤ bel (nxt s) 60 ∧ bel (nxt s) 60 ≤ 60; omega, by show 0 ≤ 1 + bel (nxt (nxt s)) 1048576 ∧ 1 + bel (nxt (nxt s)) 1048576 ≤ 1048576; omega, fun h => absurd (show 2 ≤ k ∧ k ≤ 9 by omega) h, fun h => absurd (show k = 7 ∨ k = 9 from .inl h7) h, fun h => absurd h7 h⟩
  · exact ⟨rfl, rfl, rfl, rfl, rfl, zz70, zz60, zzM, fun _ => rfl, fun _ => rfl, fun _ => rfl⟩
theorem ok_of_num {n : Nat} {adj : Nat → Nat → Bool} {k p t : Int} {y : OpV} (h : NumOk ⟨k, p, t, 0, 0, 0, ⟨#[]⟩, ⟨#[]⟩⟩ y) (hk : 0 ≤ k ∧ k < 13) (hp : 0 ≤ p ∧ p < n) (ht : 0 ≤ t ∧ t < n) (h2 : ¬ k < 2) (hbt : ¬ (4 ≤ k ∧ k ≤ 7) → t = 0) (hl : 4 ≤ k ∧ k ≤ 7 → adj p.toNat t.toNat = true) : OkOp n adj y := by
  have e1 : y.kind = k := h.kind
  have e2 : y.peer = p := h.peer
  have e3 : y.to = t := h.tow
  have e4 : y.path = ⟨#[]⟩ := h.path
  have e5 : y.data = ⟨#[]⟩ := h.data
  exact ⟨by rw [e1]; exact hk, by rw [e2]; exact hp, by rw [e3]; exact ht, h.num, h.at_, h.mask, by rw [e4]; exact Nat.zero_le _, by rw [e5]; exact Nat.zero_le _, by rw [e1, e3]; exact hbt, h.bn, h.ba, h.bm, fun _ => e4, fun _ => e5, by rw [e1, e2, e3]; exact hl, fun hx => absurd (by rw [← e1]; exact hx) h2⟩
theorem path_small (s : Int) : (pathOf s).size ≤ 5 := by
  have h := path_size (pieces s) (nxt s)
  have h2 := pieces_bounds s
  unfold pathOf
  omega
theorem op_ok {n : Nat} {adj : Nat → Nat → Bool} (hg : GR.Gr n adj) (hn : 1 ≤ n) {t : ByteArray} (ht : Low t) (s : Int) : OkOp n adj (opOf (GR.near n adj) n t s).1 := by
  have hk := kind_bounds ht s
  have hp := bel_bounds (nxt s) n (by omega)
  rw [opOf_eq]
  generalize kindOf t s = k at *
  generalize bel (nxt s) n = p at *
  generalize nxt (nxt s) = s2
  unfold opOf'
  split
  · rename_i h0
    exact ⟨hk, hp, ⟨Int.le_refl _, by show (0 : Int) < n; omega⟩, zz70, zz60, zzM, path_small _, by rw [letter_size _ _ (by omega) (by omega)]; exact Nat.le_refl _, fun _ => rfl, fun _ => rfl, fun _ => rfl, fun _ => rfl, fun h => absurd (show k < 2 by omega) h, fun h => absurd h0 h, fun h => absurd (show ¬ (4 ≤ k ∧ k ≤ 7) by omega) (fun x => x h), fun _ => ⟨_, rfl⟩⟩
  split
  · rename_i h0 h1
    exact ⟨hk, hp, ⟨Int.le_refl _, by show (0 : Int) < n; omega⟩, zz70, zz60, zzM, path_small _, Nat.zero_le _, fun _ => rfl, fun _ => rfl, fun _ => rfl, fun _ => rfl, fun h => absurd (show k < 2 by omega) h, fun _ => rfl, fun h => absurd (show ¬ (4 ≤ k ∧ k ≤ 7) by omega) (fun x => x h), fun _ => ⟨_, rfl⟩⟩
  split
  · rename_i h0 h1 h47
    split
    · exact ⟨(by decide : (0 : Int) ≤ 2 ∧ (2 : Int) < 13), hp, ⟨Int.le_refl _, by show (0 : Int) < n; omega⟩, (by decide : (0 : Int) ≤ 1 ∧ (1 : Int) ≤ 70), zz60, zzM, Nat.zero_le _, Nat.zero_le _, fun _ => rfl, fun h => absurd (show (2 : Int) ≤ 2 ∧ (2 : Int) ≤ 9 by decide) h, fun _ => rfl, fun _ => rfl, fun _ => rfl, fun _ => rfl, fun h => absurd h.1 (show ¬ (4 : Int) ≤ 2 by decide), fun h => absurd h (show ¬ (2 : Int) < 2 by decide)⟩
    · rename_i hL
      obtain ⟨hlt, hto⟩ := toOf_mem (List.length_pos_iff.2 hL) s2
      have hmem : toOf (GR.near n adj p.toNat) s2 ∈ GR.near n adj p.toNat := by rw [hto]; exact List.getElem_mem _
      have hadj := (GR.mem_near hg).1 hmem
      have hlt2 := (hg.lt _ _ hadj).2
      refine ok_of_num (numb_ok _ _ _ _ _ _) hk hp ⟨by omega, by omega⟩ (by omega) (fun h => absurd h47 h) (fun _ => ?_)
      rw [Int.toNat_natCast]
      exact hadj
  · rename_i h0 h1 h47
    exact ok_of_num (numb_ok _ _ _ _ _ _) hk hp ⟨by omega, by omega⟩ (by omega) (fun _ => rfl) (fun h => absurd h h47)
theorem script_ok {n : Nat} {adj : Nat → Nat → Bool} (hg : GR.Gr n adj) (hn : 1 ≤ n) (seed kind m : Int) : ∀ x ∈ script (GR.near n adj) n seed kind m, OkOp n adj x := scr_all (fun s => op_ok hg hn (low_wts kind) s) _ _
theorem many_eq (m : Int) : ((many m : Nat) : Int) = min (max m 0) 400 := by unfold many; omega
theorem many_le (m : Int) : many m ≤ 400 := by unfold many; omega
theorem many_half (k : Nat) (h : k ≤ 400) : many ((k : Int) / 2) = k / 2 := by unfold many; omega
theorem script_half (L : Nat → List Nat) (n : Nat) (seed kind m : Int) : (script L n seed kind m).take (many m / 2) = script L n seed kind ((many m : Int) / 2) := by
  unfold script
  rw [many_half _ (many_le m)]
  exact scr_take _ _ _ _ (by omega)
end DR
end Go.Proofs.Ytcnjklbmlplehaa
