/- The walk of DiskAll. -/
import Derived.Test.YtfegfbhchdfibaaPlaysLaw
namespace Go.Proofs.Ytfegfbhchdfibaa
open Go.RowKit

/-- A row of texts that lies behind a world. -/
def TxAt (w : World) (base : Nat) (p : Option Addr) (m : Nat) (l : List ByteArray) : Prop := m = 0 ∨ ∃ g, p = some ⟨g, 0, none⟩ ∧ base ≤ g ∧ ∀ i (h : i < l.length), w.cell? ⟨g, i, none⟩ = some (.string l[i])
theorem TxAt.ext {w w' : World} {base : Nat} {p : Option Addr} {m : Nat} {l : List ByteArray} (h : TxAt w base p m l) (he : Ext w w') : TxAt w' base p m l := h.imp id fun ⟨g, e, hb, k⟩ => ⟨g, e, hb, fun i hi => he.cell (k i hi)⟩
theorem TxAt.turn {S : Nat → Prop} {w w' : World} {base : Nat} {p : Option Addr} {m : Nat} {l : List ByteArray} (h : TxAt w base p m l) (ht : Turn S w w') (hS : ∀ k, S k → k < base) : TxAt w' base p m l := h.imp id fun ⟨g, e, hb, k⟩ => ⟨g, e, hb, fun i hi => ht.cell (a := ⟨g, i, none⟩) (fun h => by have := hS g h; omega) (k i hi)⟩
theorem tx_of_row {w : World} {base : Nat} {v : Value} {m : Nat} {l : List ByteArray} (h : w.ownsRow base 9 1 v m (svals l)) (hm : l.length = m) : ∃ p c, v = .slice p m c ∧ TxAt w base p m l := by
  rcases h.2 with ⟨rfl, h0⟩ | ⟨g, cap, cur, rfl, hb, hg, hn, hc, hs, hx⟩
  · subst h0
    exact ⟨none, 0, rfl, .inl rfl⟩
  · refine ⟨_, cap, rfl, .inr ⟨g, rfl, hb, fun i hi => ?_⟩⟩
    have k1 := h.cellAt i (by omega)
    unfold svals at k1
    rw [k1, List.getElem?_map, List.getElem?_eq_getElem hi]
    rfl
namespace DK
theorem names_live {d : D} (h : d.dead = false) : namesV d = svals (d.now.map (·.1)) := by
  unfold namesV svals
  rw [if_neg (by rw [h]; simp), List.map_map]
  rfl
/-- A crash that keeps all. -/
theorem crash_all {d : D} {N : Nat} (hg : Good N d) : (crash d d.todo.length 0).now = d.now := by
  show left d d.todo.length 0 = d.now
  unfold left
  have e : min (d.todo.length : Int).toNat d.todo.length = d.todo.length := by rw [Int.toNat_natCast, Nat.min_self]
  simp only [e]
  rw [List.getElem?_eq_none (Nat.le_refl _), List.take_length, ← hg.now]
theorem Live.lstep {d : D} (h : Live d) (y : ActV) (hk : 0 ≤ y.kind ∧ y.kind ≤ 4) : Live (lstep d y) := by
  unfold DK.lstep
  by_cases h3 : y.kind ≤ 3
  · rw [if_pos ⟨hk.1, h3⟩]
    unfold act
    have kp : Kp d [] := Kp.nil _
    split
    · exact (Safe.write kp h _ _ _ 0 ByteArray.empty).2
    · split
      · exact (Safe.cut kp h _ _ 0 ByteArray.empty).2
      · split
        · exact (Safe.move kp h _ _).2
        · exact (Safe.drop kp h _ 0 ByteArray.empty).2
  · rw [if_neg (fun h => h3 h.2), if_pos (by omega)]
    exact h.syncL
end DK
end Go.Proofs.Ytfegfbhchdfibaa
