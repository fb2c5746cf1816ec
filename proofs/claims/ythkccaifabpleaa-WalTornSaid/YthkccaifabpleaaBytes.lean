/- Blocks of bytes: what their cells hold; a store; a text made of them; bytes made of a text. -/
import Derived.Test.YthkccaifabpleaaMem
import Derived.Test.YthkccaifabpleaaChecked
namespace Go.Proofs.Ythkccaifabpleaa
open Go.RowKit

/-- The cells of a block hold these bytes, and may be written. -/
def BytesAt (w : World) (b : Nat) (l : List UInt8) : Prop := ∀ j (h : j < l.length), w.cell? ⟨b, j, none⟩ = some (.int .u8 (l[j].toNat : Int)) ∧ w.frozen? ⟨b, j, none⟩ = false

theorem BytesAt.ext {w w' : World} {b : Nat} {l : List UInt8} (h : BytesAt w b l) (he : Ext w w') : BytesAt w' b l :=
  fun j hj => ⟨he.cell (h j hj).1, by rw [he.frozen (h j hj).1]; exact (h j hj).2⟩

theorem BytesAt.set {w : World} {b : Nat} {l : List UInt8} (h : BytesAt w b l) (i : Nat) (_hi : i < l.length) (x : UInt8) :
    BytesAt (w.setCell ⟨b, i, none⟩ (.int .u8 (x.toNat : Int))) b (l.set i x) := by
  intro j hj
  rw [List.length_set] at hj
  refine ⟨?_, by rw [World.frozen?_setCell]; exact (h j hj).2⟩
  by_cases e : i = j
  · subst e
    rw [World.cell?_setCell_same' _ _ _ (by rw [(h i hj).1]; rfl)]
    simp
  · rw [World.cell?_setCell_other _ _ _ _ (by intro hh; injection hh with h1 h2; exact e h2), (h j hj).1]
    simp [e]

/-- 'string(b)'. -/
theorem conv_bytes {w : World} {b : Nat} {l : List UInt8} (h : BytesAt w b l) (cap : Nat) :
    (convert 67 9 (.slice (some ⟨b, 0, none⟩) l.length cap)).run Try.prog w = .ok (.string ⟨l.toArray⟩) w :=
  run_convert_bytes_back _ _ _ 5 _ cap l Try.underlying67 Try.underlying5 Try.underlying9 fun j hj => by
    have hp : (⟨b, 0, none⟩ : Addr).add j = ⟨b, j, none⟩ := by unfold Addr.add; split <;> simp_all
    rw [hp]; exact (h j hj).1

theorem conv_bytes' {w : World} {b : Nat} {l : List UInt8} (h : BytesAt w b l) {n : Nat} (hn : l.length = n) (cap : Nat) :
    (convert 67 9 (.slice (some ⟨b, 0, none⟩) n cap)).run Try.prog w = .ok (.string ⟨l.toArray⟩) w := by
  subst hn; exact conv_bytes h cap

/-- '[]byte(s)': a new block, whose cells are the bytes. -/
theorem bytes_of (s : ByteArray) (w : World) : ∃ (cap : Nat) (o : Obj),
    (convert 9 67 (.string s)).run Try.prog w = .ok (.slice (some ⟨w.heap.size, 0, none⟩) s.size cap) (w.alloc o).drew ∧ BytesAt (w.alloc o).drew w.heap.size s.data.toList := by
  refine ⟨_, _, run_bytes_of_string w 9 67 5 s Try.underlying9 Try.underlying67 Try.underlying5, ?_⟩
  intro j hj
  have hj' : j < s.data.size := by simpa using hj
  generalize grownCap w s.size 0 5 = c
  refine ⟨?_, ?_⟩
  · rw [World.cell?_drew, World.cell?_alloc_mark, bytesRow_at s c j hj']
    simp
  · rw [World.frozen?_drew, World.frozen?_alloc_mark]
    have : j < (bytesRow s c).size := by unfold bytesRow; rw [Array.size_append, Array.size_map]; omega
    have : decide ((bytesRow s c).size ≤ j) = false := by simp; omega
    rw [this]; rfl

end Go.Proofs.Ythkccaifabpleaa
