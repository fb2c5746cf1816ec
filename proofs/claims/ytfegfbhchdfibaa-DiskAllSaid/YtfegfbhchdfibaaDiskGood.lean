/- A disk stays one that may be, whatever is done with it: plain. -/
import Derived.Test.YtfegfbhchdfibaaDiskSync
namespace Go.Proofs.Ytfegfbhchdfibaa
open Go.RowKit

namespace DK
theorem may_live {d : D} {l : List ByteArray} (h : mayE d.dead l = 0) : d.dead = false := by
  cases hd : d.dead with
  | false => rfl
  | true => rw [hd] at h; exact absurd h (by unfold mayE; simp)
/-- A write that was let in. -/
theorem write_took {d : D} {name s : ByteArray} {at_ : Int} (h1 : mayE d.dead [name] = 0) (h2 : ¬ (at_ < 0 ∨ ((get d.now name).size : Int) < at_)) (h3 : fitsB d (doS d.now (.write name at_.toNat s)) = true) :
    write d name at_ s = (took d (.write name at_.toNat s), if (took d (.write name at_.toNat s)).dead = true then 10 else 0) := by
  unfold write
  rw [if_neg (by rw [h1]; simp), if_neg h2, if_neg (by rw [h3]; simp)]
theorem write_cases (d : D) (name s : ByteArray) (at_ : Int) :
    (∃ e, e ≠ 0 ∧ write d name at_ s = (d, e)) ∨ (mayE d.dead [name] = 0 ∧ ¬ (at_ < 0 ∨ ((get d.now name).size : Int) < at_) ∧ fitsB d (doS d.now (.write name at_.toNat s)) = true ∧
      write d name at_ s = (took d (.write name at_.toNat s), if (took d (.write name at_.toNat s)).dead = true then 10 else 0)) := by
  by_cases h1 : mayE d.dead [name] = 0
  · by_cases h2 : at_ < 0 ∨ ((get d.now name).size : Int) < at_
    · exact .inl ⟨2, by omega, by unfold write; rw [if_neg (by rw [h1]; simp), if_pos h2]⟩
    · by_cases h3 : fitsB d (doS d.now (.write name at_.toNat s)) = true
      · exact .inr ⟨h1, h2, h3, write_took h1 h2 h3⟩
      · exact .inl ⟨4, by omega, by unfold write; rw [if_neg (by rw [h1]; simp), if_neg h2, if_pos (by simpa using h3)]⟩
  · exact .inl ⟨_, h1, by unfold write; rw [if_pos h1]⟩
theorem write_ok {d : D} {name s : ByteArray} {at_ : Int} (h2 : ¬ (at_ < 0 ∨ ((get d.now name).size : Int) < at_)) (hn : name.size ≤ 2199023255552) (hs : s.size ≤ 2199023255552) : okS d.now (.write name at_.toNat s) := ⟨by omega, hs, hn⟩
theorem Good.write {N : Nat} {d : D} (h : Good N d) (name s : ByteArray) (at_ : Int) (hn : name.size ≤ 2199023255552) (hs : s.size ≤ 2199023255552) : Good (N + name.size + s.size + 2) (write d name at_ s).1 := by
  rcases write_cases d name s at_ with ⟨e, _, he⟩ | ⟨h1, h2, _, he⟩
  · rw [he]; exact h.mono (by omega)
  · rw [he]; exact (h.took (may_live h1) _ (write_ok h2 hn hs)).mono (by dsimp only [brings]; omega)
theorem Small.torn {N : Nat} {m : Files} {n s : ByteArray} {p q : Nat} (h : Small N (doS m (.write n p s))) (hp : p ≤ (DK.get m n).size) : Small N (doS m (.write n p (s.extract 0 (min q s.size)))) := by
  have e1 : doS m (.write n p s) = DK.put m n (over (DK.get m n) p s) := rfl
  have e2 : doS m (.write n p (s.extract 0 (min q s.size))) = DK.put m n (over (DK.get m n) p (s.extract 0 (min q s.size))) := rfl
  rw [e1] at h
  rw [e2]
  refine ⟨?_, fun x hx => ?_⟩
  · have := h.1
    unfold DK.put at this ⊢
    rw [ins_length] at this ⊢
    exact this
  · rcases (mem_put _ _ _ _).1 hx with rfl | hx2
    · have h1 := h.2 (n, over (DK.get m n) p s) ((mem_put _ _ _ _).2 (.inl rfl))
      simp only at h1 ⊢
      rw [size_over _ _ _ hp] at h1 ⊢
      rw [ByteArray.size_extract]
      omega
    · exact h.2 x ((mem_put _ _ _ _).2 (.inr hx2))
theorem left_small {N : Nat} {d : D} (h : Good N d) (keep tk : Int) : Small N (left d keep tk) := by
  unfold left
  simp only
  have hk : min keep.toNat d.todo.length ≤ d.todo.length := by omega
  generalize min keep.toNat d.todo.length = k at *
  cases hg : d.todo[k]? with
  | none => exact h.small k hk
  | some s =>
    simp only
    split
    · cases s with
      | write n p t =>
        obtain ⟨hlt, he⟩ := List.getElem?_eq_some_iff.1 hg
        have h1 := h.small (k + 1) (by omega)
        have h2 := h.steps k hlt
        rw [List.take_add_one, hg] at h1
        have e : runs d.safe (d.todo.take k ++ (some (Step.write n p t)).toList) = doS (runs d.safe (d.todo.take k)) (.write n p t) := runs_snoc _ _ _
        rw [e] at h1
        rw [he] at h2
        exact h1.torn h2.1
      | cut n p => exact h.small k hk
      | move a b => exact h.small k hk
      | drop a => exact h.small k hk
    · exact h.small k hk
theorem Good.crash {N : Nat} {d : D} (h : Good N d) (keep tk : Int) : Good N (crash d keep tk) :=
  ⟨rfl, fun i hi => absurd hi (Nat.not_lt_zero _), fun i hi => (by
    obtain rfl : i = 0 := Nat.le_zero.1 hi
    exact left_small h keep tk), h.room, fun hf => (by cases hf), Nat.zero_le _⟩
end DK

/-- A disk that was laid since a world, of which nothing has turned. -/
structure Held (w0 w : World) (S : Nat → Prop) (B : Nat) (d : DK.D) : Prop where
  disk : DiskAt w S B d
  ext : Ext w0 w
  new : ∀ k, S k → w0.heap.size ≤ k
theorem Held.next {w0 w w' : World} {S : Nat → Prop} {B : Nat} {d d' : DK.D} (h : Held w0 w S B d) (hl : Left w S B d' w') : ∃ S', Held w0 w' S' B d' ∧ Turn S w w' ∧ Grew w S S' := by
  obtain ⟨S', h1, h2, h3⟩ := hl
  exact ⟨S', ⟨h1, h2.ext h.ext h.new, fun k hk => by
    rcases h3 k hk with h4 | h4
    · exact h.new k h4
    · have := h.ext.size; omega⟩, h2, h3⟩
theorem Held.more {w0 w w' : World} {S : Nat → Prop} {B : Nat} {d : DK.D} (h : Held w0 w S B d) (he : Ext w w') : Held w0 w' S B d := ⟨h.disk.ext he, h.ext.trans he, h.new⟩

end Go.Proofs.Ytfegfbhchdfibaa
