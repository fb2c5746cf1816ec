/- Two rows of texts that a call owns, side by side. -/
import Derived.Test.YtfegfbhchdfibaaDiskMem
import Derived.Test.YtfegfbhchdfibaaStrs
import Derived.Deep.AppendLies
namespace Go.Proofs.Ytfegfbhchdfibaa
open Go.RowKit

def svals (l : List ByteArray) : List Value := l.map Value.string
theorem svals_length (l : List ByteArray) : (svals l).length = l.length := List.length_map ..
theorem svals_snoc (l : List ByteArray) (s : ByteArray) : svals l ++ [.string s] = svals (l ++ [s]) := by unfold svals; rw [List.map_append]; rfl
theorem row_kept {W W' : World} {base : Nat} {e : TypeId} {size : Nat} {v : Value} {n : Nat} {xs : List Value} {r : Option Nat} (h : W.ownsRow base e size v n xs) (hg : W.grownBy W' r) (hr : ∀ k, r = some k → v.ownBlock ≠ some k) : W'.ownsRow base e size v n xs := by
  refine ⟨h.1, h.2.imp id ?_⟩
  rintro ⟨g, cap, cur, rfl, h1, h2, h3⟩
  exact ⟨g, cap, cur, rfl, h1, (hg.block g (Array.getElem?_eq_some_iff.1 h2).1 fun e => hr g e.symm rfl).trans h2, h3⟩
theorem row_turn {w w' : World} {S : Nat → Prop} {base : Nat} {t : TypeId} {size n : Nat} {v : Value} {xs : List Value} (h : w.ownsRow base t size v n xs) (ht : Turn S w w') (hn : ∀ k, v.ownBlock = some k → ¬ S k) : w'.ownsRow base t size v n xs := by
  refine ⟨h.1, h.2.imp id ?_⟩
  rintro ⟨g, cap, cur, rfl, k1, k2, k3⟩
  exact ⟨g, cap, cur, rfl, k1, (ht.block g (Array.getElem?_eq_some_iff.1 k2).1 (hn g rfl)).trans k2, k3⟩
theorem out_grew {w : World} {S S' : Nat → Prop} {base : Nat} {t : TypeId} {size n : Nat} {v : Value} {xs : List Value} (h : w.ownsRow base t size v n xs) (hg : Grew w S S') (hn : ∀ k, v.ownBlock = some k → ¬ S k) : ∀ k, v.ownBlock = some k → ¬ S' k := fun k e hs => by
  rcases hg k hs with h1 | h1
  · exact hn k e h1
  · have := h.lt k e
    omega
/-- A row's texts, to be read. -/
theorem row_texts {W : World} {base : Nat} {p : Option Addr} {n c : Nat} {l : List ByteArray} (h : W.ownsRow base 9 1 (.slice p n c) n (svals l)) (hn : l.length = n) : n = 0 ∨ ∃ b off, p = some ⟨b, off, none⟩ ∧ StrsAt W b off l := by
  rcases h.2 with ⟨_, h0⟩ | ⟨g, cap, cur, hv, hb, hg, hn2, hc, hs, hx⟩
  · exact .inl h0
  · injection hv with e1 _ _
    refine .inr ⟨g, 0, e1, fun i hi => ?_⟩
    subst e1
    have k1 := h.cellAt i (by omega)
    rw [Nat.zero_add, k1]
    unfold svals
    rw [List.getElem?_map, List.getElem?_eq_getElem hi]
    rfl

structure R2 (w0 W : World) (vN vB : Value) (i j : Nat) (ns bs : List ByteArray) : Prop where
  n : W.ownsRow w0.heap.size 9 1 vN i (svals ns)
  b : W.ownsRow w0.heap.size 9 1 vB j (svals bs)
  ln : ns.length = i
  lb : bs.length = j
  ap : ∀ g, vN.ownBlock = some g → vB.ownBlock ≠ some g
  ext : Ext w0 W
theorem R2.start {w0 W : World} (h : Ext w0 W) : R2 w0 W (.slice none 0 0) (.slice none 0 0) 0 0 [] [] := ⟨World.ownsRow_nil _ _ _ _, World.ownsRow_nil _ _ _ _, rfl, rfl, fun g e => (by cases e), h⟩
theorem R2.more {w0 W W' : World} {vN vB : Value} {i j : Nat} {ns bs : List ByteArray} (h : R2 w0 W vN vB i j ns bs) (he : Ext W W') : R2 w0 W' vN vB i j ns bs := ⟨row_to h.n he, row_to h.b he, h.ln, h.lb, h.ap, h.ext.trans he⟩
theorem R2.addN {w0 W W' : World} {vN vB : Value} {i j : Nat} {ns bs : List ByteArray} {g cap : Nat} {s : ByteArray} (h : R2 w0 W vN vB i j ns bs) (ho : W'.ownsRow w0.heap.size 9 1 (.slice (some ⟨g, 0, none⟩) (i + 1) cap) (i + 1) (svals ns ++ [.string s]))
    (hg : W.grownBy W' vN.ownBlock) (hat : vN.ownBlock = some g ∨ g = W.heap.size) : R2 w0 W' (.slice (some ⟨g, 0, none⟩) (i + 1) cap) vB (i + 1) j (ns ++ [s]) bs := by
  refine ⟨by rw [← svals_snoc]; exact ho, row_kept h.b hg fun j e => h.ap j e, by rw [List.length_append, h.ln]; rfl, h.lb, fun j e hb => ?_, ext_grownV h.ext h.n hg (Nat.le_refl _)⟩
  have e : g = j := by simpa [Value.ownBlock] using e
  subst e
  rcases hat with h1 | h1
  · exact h.ap g h1 hb
  · have := h.b.lt g hb
    omega
theorem R2.addB {w0 W W' : World} {vN vB : Value} {i j : Nat} {ns bs : List ByteArray} {g cap : Nat} {s : ByteArray} (h : R2 w0 W vN vB i j ns bs) (ho : W'.ownsRow w0.heap.size 9 1 (.slice (some ⟨g, 0, none⟩) (j + 1) cap) (j + 1) (svals bs ++ [.string s]))
    (hg : W.grownBy W' vB.ownBlock) (hat : vB.ownBlock = some g ∨ g = W.heap.size) : R2 w0 W' vN (.slice (some ⟨g, 0, none⟩) (j + 1) cap) i (j + 1) ns (bs ++ [s]) := by
  refine ⟨row_kept h.n hg fun j e hn => h.ap j hn e, by rw [← svals_snoc]; exact ho, h.ln, by rw [List.length_append, h.lb]; rfl, fun j hn e => ?_, ext_grownV h.ext h.b hg (Nat.le_refl _)⟩
  have e : g = j := by simpa [Value.ownBlock] using e
  subst e
  rcases hat with h1 | h1
  · exact h.ap g hn h1
  · have := h.n.lt g hn
    omega
def Out (S : Nat → Prop) (vN vB : Value) : Prop := (∀ g, vN.ownBlock = some g → ¬ S g) ∧ ∀ g, vB.ownBlock = some g → ¬ S g
theorem R2.turn {w0 w w' : World} {S : Nat → Prop} {vN vB : Value} {i j : Nat} {ns bs : List ByteArray} (h : R2 w0 w vN vB i j ns bs) (ht : Turn S w w') (ho : Out S vN vB) (he : Ext w0 w') : R2 w0 w' vN vB i j ns bs :=
  ⟨row_turn h.n ht ho.1, row_turn h.b ht ho.2, h.ln, h.lb, h.ap, he⟩
theorem R2.outGrew {w0 w : World} {S S' : Nat → Prop} {vN vB : Value} {i j : Nat} {ns bs : List ByteArray} (h : R2 w0 w vN vB i j ns bs) (hg : Grew w S S') (ho : Out S vN vB) : Out S' vN vB :=
  ⟨out_grew h.n hg ho.1, out_grew h.b hg ho.2⟩
theorem R2.base {w0 w1 w : World} {vN vB : Value} {i j : Nat} {ns bs : List ByteArray} (h : R2 w1 w vN vB i j ns bs) (he : Ext w0 w1) : R2 w0 w vN vB i j ns bs :=
  ⟨row_base h.n he.size, row_base h.b he.size, h.ln, h.lb, h.ap, he.trans h.ext⟩
theorem R2.outNew {w1 w : World} {S : Nat → Prop} {vN vB : Value} {i j : Nat} {ns bs : List ByteArray} (h : R2 w1 w vN vB i j ns bs) (hS : ∀ k, S k → k < w1.heap.size) : Out S vN vB :=
  ⟨fun g e hs => by have h1 := h.n.lt g e; have h2 := hS g hs; omega, fun g e hs => by have h1 := h.b.lt g e; have h2 := hS g hs; omega⟩
/-- A block that was laid behind a row stays while the row grows. -/
theorem fresh_kept {W W' : World} {base : Nat} {e : TypeId} {size : Nat} {v : Value} {n : Nat} {xs : List Value} {wr : World} (h : wr.ownsRow base e size v n xs) (hg : W.grownBy W' v.ownBlock) {ad : Addr} (hk : wr.heap.size ≤ ad.block) {news : List Value} (hc : ∀ j u, news[j]? = some u → W.cell? (ad.add j) = some u) :
    ∀ j u, news[j]? = some u → W'.cell? (ad.add j) = some u := fun j u hj => by
  have h1 := hc j u hj
  have hlt := lt_of_cell h1
  refine (World.cell?_of_block (hg.block _ hlt fun e => ?_)).trans h1
  have h2 := h.lt _ e.symm
  have h3 : (ad.add j).block = ad.block := by unfold Addr.add; split <;> rfl
  omega
theorem new_at (W : World) (x : Value) (t : TypeId) (H : Nat) (hH : W.heap.size = H) : ∀ j u, [x][j]? = some u → (W.alloc (.cells #[x] t)).cell? ((⟨H, 0, none⟩ : Addr).add j) = some u := by
  subst hH
  exact cell_one_new W x t
theorem new_ext {W W' : World} {ad : Addr} {news : List Value} (he : Ext W W') (h : ∀ j u, news[j]? = some u → W.cell? (ad.add j) = some u) : ∀ j u, news[j]? = some u → W'.cell? (ad.add j) = some u := fun j u hj => he.cell (h j u hj)
end Go.Proofs.Ytfegfbhchdfibaa
