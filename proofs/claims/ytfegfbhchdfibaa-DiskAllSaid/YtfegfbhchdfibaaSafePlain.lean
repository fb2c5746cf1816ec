/- What a crash leaves of files that no pending step touches: plain. -/
import Derived.Test.YtfegfbhchdfibaaDiskNamesAt
import Derived.Test.YtfegfbhchdfibaaDiskGoodOps
namespace Go.Proofs.Ytfegfbhchdfibaa
open Go.RowKit

namespace DK
/-- A step that touches no file of this name. -/
def apart (x : ByteArray) : Step → Prop
  | .write n _ _ => n ≠ x
  | .cut n _ => n ≠ x
  | .move a b => a ≠ x ∧ b ≠ x
  | .drop a => a ≠ x
def look (m : Files) (x : ByteArray) : Option (ByteArray × ByteArray) := m.find? fun p => decide (p.1 = x)
theorem get_look (m : Files) (x : ByteArray) : get m x = ((look m x).map (·.2)).getD ByteArray.empty := rfl
theorem has_look (m : Files) (x : ByteArray) : has m x = (look m x).isSome := by
  unfold has look
  induction m with
  | nil => rfl
  | cons p m ih =>
    rw [List.any_cons, List.find?_cons, ih]
    cases decide (p.1 = x) <;> rfl
theorem look_ins (p : ByteArray × ByteArray) (m : Files) (x : ByteArray) (h : p.1 ≠ x) : look (ins p m) x = look m x := by
  unfold look
  have hp : decide (p.1 = x) = false := decide_eq_false h
  induction m with
  | nil => unfold ins; rw [List.find?_cons, hp]
  | cons q m ih =>
    unfold ins
    split
    · rw [List.find?_cons, hp]
    · rw [List.find?_cons, List.find?_cons, ih]
theorem look_without (m : Files) (a x : ByteArray) (h : a ≠ x) : look (without m a) x = look m x := by
  unfold look without
  induction m with
  | nil => rfl
  | cons q m ih =>
    rw [List.filter_cons]
    by_cases hq : q.1 = a
    · have h1 : decide (q.1 = x) = false := decide_eq_false (by rw [hq]; exact h)
      have h2 : decide (q.1 ≠ a) = false := decide_eq_false (by rw [hq]; simp)
      rw [h2, List.find?_cons, h1]
      exact ih
    · have h2 : decide (q.1 ≠ a) = true := decide_eq_true hq
      rw [h2, if_pos rfl, List.find?_cons, List.find?_cons, ih]
theorem look_put (m : Files) (a s x : ByteArray) (h : a ≠ x) : look (put m a s) x = look m x := by
  unfold put
  rw [look_ins _ _ _ h, look_without _ _ _ h]
theorem look_do (m : Files) (s : Step) (x : ByteArray) (h : apart x s) : look (doS m s) x = look m x := by
  cases s with
  | write n k t => exact look_put _ _ _ _ h
  | cut n k => exact look_put _ _ _ _ h
  | move a b =>
    obtain ⟨h1, h2⟩ := h
    show look (put (without m a) b (get m a)) x = look m x
    rw [look_put _ _ _ _ h2, look_without _ _ _ h1]
  | drop a => exact look_without _ _ _ h
theorem look_runs (l : List Step) (m : Files) (x : ByteArray) (h : ∀ s ∈ l, apart x s) : look (runs m l) x = look m x := by
  induction l generalizing m with
  | nil => rfl
  | cons s l ih =>
    show look (runs (doS m s) l) x = look m x
    rw [ih _ fun t ht => h t (List.mem_cons_of_mem _ ht), look_do _ _ _ (h s (List.mem_cons_self ..))]
theorem look_left (d : D) (keep tk : Int) (x : ByteArray) (h : ∀ s ∈ d.todo, apart x s) : look (left d keep tk) x = look d.safe x := by
  unfold left
  simp only
  generalize min keep.toNat d.todo.length = k
  have h1 := look_runs (d.todo.take k) d.safe x fun s hs => h s (List.mem_of_mem_take hs)
  cases hg : d.todo[k]? with
  | none => exact h1
  | some s =>
    have hs := h s (List.mem_of_getElem? hg)
    simp only
    split
    · cases s with
      | write n p t =>
        show look (doS (runs d.safe (d.todo.take k)) (.write n p (t.extract 0 (min tk.toNat t.size)))) x = _
        exact (look_do _ (.write n p (t.extract 0 (min tk.toNat t.size))) x hs).trans h1
      | cut n p => exact h1
      | move a b => exact h1
      | drop a => exact h1
    · exact h1

/-- These files stay, whatever a crash leaves. -/
def Kp (d : D) (l : Files) : Prop := ∀ p ∈ l, look d.safe p.1 = some p ∧ ∀ s ∈ d.todo, apart p.1 s
theorem Kp.nil (d : D) : Kp d [] := fun p hp => by cases hp
theorem Kp.sub {d : D} {l l' : Files} (h : Kp d l) (hs : ∀ p ∈ l', p ∈ l) : Kp d l' := fun p hp => h p (hs p hp)
theorem Kp.took {d : D} {l l' : Files} (h : Kp d l) (s : Step) (hs : ∀ p ∈ l', p ∈ l ∧ apart p.1 s) : Kp (took d s) l' := fun p hp => by
  obtain ⟨h1, h2⟩ := hs p hp
  obtain ⟨h3, h4⟩ := h p h1
  unfold DK.took
  rw [burn_safe, burn_todo]
  refine ⟨h3, fun t ht => ?_⟩
  rcases List.mem_append.1 ht with h5 | h5
  · exact h4 t h5
  · obtain rfl : t = s := by simpa using h5
    exact h2
theorem Kp.left {d : D} {l : Files} (h : Kp d l) (keep tk : Int) (p : ByteArray × ByteArray) (hp : p ∈ l) : get (left d keep tk) p.1 = p.2 ∧ has (left d keep tk) p.1 = true := by
  obtain ⟨h1, h2⟩ := h p hp
  have h3 := look_left d keep tk p.1 h2
  rw [get_look, has_look, h3, h1]
  exact ⟨rfl, rfl⟩
theorem lt_irrefl (a : ByteArray) : lt a a = false := WideAt.bytes_irrefl _
theorem look_mem : ∀ {m : Files}, rise m → ∀ p ∈ m, look m p.1 = some p
  | [], _, p, hp => by cases hp
  | q :: m, h, p, hp => by
    unfold look
    rw [List.find?_cons]
    rcases List.mem_cons.1 hp with rfl | h1
    · rw [decide_eq_true rfl]
    · have h2 := (List.pairwise_cons.1 h).1 p h1
      have h3 : q.1 ≠ p.1 := fun e => by rw [e, lt_irrefl] at h2; cases h2
      rw [decide_eq_false h3]
      exact look_mem (List.pairwise_cons.1 h).2 p h1
/-- A disk that lives, and has no fuse. -/
def Live (d : D) : Prop := d.dead = false ∧ d.fused = false
theorem Live.burn {d : D} (h : Live d) : burn d = d := by
  unfold DK.burn
  rw [h.2]
  rfl
theorem Live.took {d : D} (h : Live d) (s : Step) : Live (took d s) := by
  unfold DK.took
  rw [Live.burn (d := { d with todo := d.todo ++ [s], now := doS d.now s }) h]
  exact h
theorem Live.sync {d : D} (h : Live d) : syncD d = ({ d with safe := d.now, todo := [] }, 0) := by
  unfold syncD
  rw [h.burn, if_neg (by rw [h.1]; simp), if_neg (by rw [h.1]; simp)]
theorem Live.syncL {d : D} (h : Live d) : Live (syncD d).1 := by
  rw [h.sync]
  exact h
theorem Kp.sync {d : D} (h : Live d) (hr : rise d.now) : Kp (syncD d).1 d.now := fun p hp => by
  rw [h.sync]
  exact ⟨look_mem hr p hp, fun s hs => by cases hs⟩
theorem get_mem {m : Files} (hr : rise m) {p : ByteArray × ByteArray} (hp : p ∈ m) : get m p.1 = p.2 ∧ has m p.1 = true := by
  rw [get_look, has_look, look_mem hr p hp]
  exact ⟨rfl, rfl⟩
/-- What of the files is not touched by an act. -/
def spared (kind : Int) (n t : ByteArray) (l : Files) : Files := l.filter fun p => decide (p.1 ≠ n) && (decide (kind ≠ 2) || decide (p.1 ≠ t))
theorem mem_spared {kind : Int} {n t : ByteArray} {l : Files} {p : ByteArray × ByteArray} (h : p ∈ spared kind n t l) : p ∈ l ∧ p.1 ≠ n ∧ (kind = 2 → p.1 ≠ t) := by
  obtain ⟨h1, h2⟩ := List.mem_filter.1 h
  rw [Bool.and_eq_true, Bool.or_eq_true, decide_eq_true_eq, decide_eq_true_eq, decide_eq_true_eq] at h2
  exact ⟨h1, h2.1, fun e => h2.2.resolve_left fun h => h e⟩
theorem Safe.write {d : D} {l : Files} (h : Kp d l) (hl : Live d) (n s : ByteArray) (at_ : Int) (kind : Int) (t : ByteArray) : Kp (write d n at_ s).1 (spared kind n t l) ∧ Live (write d n at_ s).1 := by
  rcases write_cases d n s at_ with ⟨e, _, he⟩ | ⟨_, _, _, he⟩
  · rw [he]; exact ⟨h.sub fun p hp => (mem_spared hp).1, hl⟩
  · rw [he]; exact ⟨h.took _ fun p hp => ⟨(mem_spared hp).1, fun e => (mem_spared hp).2.1 e.symm⟩, hl.took _⟩
theorem Safe.cut {d : D} {l : Files} (h : Kp d l) (hl : Live d) (n : ByteArray) (at_ : Int) (kind : Int) (t : ByteArray) : Kp (cut d n at_).1 (spared kind n t l) ∧ Live (cut d n at_).1 := by
  rcases cut_cases d n at_ with ⟨e, _, he⟩ | ⟨_, _, he⟩
  · rw [he]; exact ⟨h.sub fun p hp => (mem_spared hp).1, hl⟩
  · rw [he]; exact ⟨h.took _ fun p hp => ⟨(mem_spared hp).1, fun e => (mem_spared hp).2.1 e.symm⟩, hl.took _⟩
theorem Safe.drop {d : D} {l : Files} (h : Kp d l) (hl : Live d) (n : ByteArray) (kind : Int) (t : ByteArray) : Kp (drop d n).1 (spared kind n t l) ∧ Live (drop d n).1 := by
  unfold DK.drop
  rcases did_cases d (thereE d [n] n) (.drop n) with ⟨_, he⟩ | ⟨_, he⟩
  · rw [he]; exact ⟨h.sub fun p hp => (mem_spared hp).1, hl⟩
  · rw [he]; exact ⟨h.took _ fun p hp => ⟨(mem_spared hp).1, fun e => (mem_spared hp).2.1 e.symm⟩, hl.took _⟩
theorem Safe.move {d : D} {l : Files} (h : Kp d l) (hl : Live d) (n t : ByteArray) : Kp (move d n t).1 (spared 2 n t l) ∧ Live (move d n t).1 := by
  unfold DK.move
  rcases did_cases d (thereE d [t, n] n) (.move n t) with ⟨_, he⟩ | ⟨_, he⟩
  · rw [he]; exact ⟨h.sub fun p hp => (mem_spared hp).1, hl⟩
  · rw [he]; exact ⟨h.took _ fun p hp => ⟨(mem_spared hp).1, fun e => (mem_spared hp).2.1 e.symm, fun e => (mem_spared hp).2.2 rfl e.symm⟩, hl.took _⟩
end DK
end Go.Proofs.Ytfegfbhchdfibaa
