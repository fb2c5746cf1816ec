/- The files of a disk, and what its steps make of them: plain, no program in sight. -/
import Derived.Maps.Ext
import Derived.Maps.OwnSet
namespace Go.Proofs.Ytfegfbhchdfibaa
open Go.RowKit

namespace DK
abbrev Files := List (ByteArray × ByteArray)
/-- A text as a key, or an element, reads. -/
def lit (s : ByteArray) : Lit := .string s.data.toList
theorem lit_inj {a b : ByteArray} (h : lit a = lit b) : a = b := by
  unfold lit at h
  injection h with h
  have h2 : a.data = b.data := Array.toList_inj.1 h
  cases a; cases b
  simp at h2
  rw [h2]
theorem lit_key (a : ByteArray) : WideAt.IsKeyLit (lit a) := trivial
theorem lit_same (a b : ByteArray) : (lit a).sameKey (lit b) = decide (a = b) := by
  show (a.data.toList == b.data.toList) = decide (a = b)
  by_cases h : a = b
  · subst h; simp
  · rw [decide_eq_false h, beq_eq_false_iff_ne]
    intro e
    exact h (lit_inj (by unfold lit; rw [e]))
/-- Does a name stand ahead of another one? -/
def lt (a b : ByteArray) : Bool := (lit a).before (lit b)
/-- Files without one. -/
def without (l : Files) (n : ByteArray) : Files := l.filter fun p => decide (p.1 ≠ n)
def ins (x : ByteArray × ByteArray) : Files → Files
  | [] => [x]
  | y :: r => if lt x.1 y.1 = true then x :: y :: r else y :: ins x r
/-- Files with one. -/
def put (l : Files) (n s : ByteArray) : Files := ins (n, s) (without l n)
/-- A file's bytes. -/
def get (l : Files) (n : ByteArray) : ByteArray := ((l.find? fun p => decide (p.1 = n)).map (·.2)).getD ByteArray.empty
def has (l : Files) (n : ByteArray) : Bool := l.any fun p => decide (p.1 = n)

def ent (p : ByteArray × ByteArray) : Lit × DataW Unit := (lit p.1, .lit (lit p.2))
/-- What a map of files reads as. -/
def dOf (l : Files) : DataW Unit := .map (l.map ent)

theorem map_without (l : Files) (n : ByteArray) : (without l n).map ent = (l.map ent).filter fun p => !p.1.sameKey (lit n) := by
  induction l with
  | nil => rfl
  | cons x l ih =>
    rw [List.map_cons, List.filter_cons]
    unfold without at *
    rw [List.filter_cons]
    have e : (ent x).1.sameKey (lit n) = decide (x.1 = n) := lit_same _ _
    rw [e]
    by_cases h : x.1 = n
    · simp only [h, ne_eq, not_true_eq_false, decide_false, decide_true, Bool.not_true]
      exact ih
    · simp only [h, ne_eq, not_false_eq_true, decide_true, decide_false, Bool.not_false, if_true, List.map_cons, ih]
theorem map_ins (x : ByteArray × ByteArray) (l : Files) : (ins x l).map ent = DataW.insert (ent x) (l.map ent) := by
  induction l with
  | nil => rfl
  | cons y l ih =>
    unfold ins
    rw [List.map_cons]
    unfold DataW.insert
    have e : (ent x).1.before (ent y).1 = lt x.1 y.1 := rfl
    rw [e]
    by_cases h : lt x.1 y.1 = true
    · rw [if_pos h, if_pos h]; rfl
    · rw [if_neg h, if_neg h, List.map_cons, ih]
theorem dOf_put (l : Files) (n s : ByteArray) : (dOf l).put (lit n) (.lit (lit s)) = dOf (put l n s) := by
  show DataW.map (DataW.insert (lit n, .lit (lit s)) ((l.map ent).filter fun p => !p.1.sameKey (lit n))) = _
  unfold dOf put
  rw [map_ins, map_without]
  rfl
theorem dOf_del (l : Files) (n : ByteArray) : (dOf l).del (lit n) = dOf (without l n) := by
  show DataW.map ((l.map ent).filter fun p => !p.1.sameKey (lit n)) = _
  unfold dOf
  rw [map_without]
theorem dOf_has (l : Files) (n : ByteArray) : Maps.has (dOf l) (lit n) = has l n := by
  show (l.map ent).any (fun p => p.1.sameKey (lit n)) = l.any fun p => decide (p.1 = n)
  rw [List.any_map]
  congr 1
  funext p
  exact lit_same _ _
theorem find_ent (l : Files) (n : ByteArray) : (l.map ent).find? (fun p => p.1.sameKey (lit n)) = (l.find? fun p => decide (p.1 = n)).map ent := by
  induction l with
  | nil => rfl
  | cons x l ih =>
    rw [List.map_cons, List.find?_cons, List.find?_cons]
    have e : (ent x).1.sameKey (lit n) = decide (x.1 = n) := lit_same _ _
    rw [e]
    cases decide (x.1 = n) with
    | true => rfl
    | false => exact ih
theorem dOf_atKey (l : Files) (n : ByteArray) : (dOf l).atKey (lit n) (.lit (lit ByteArray.empty)) = .lit (lit (get l n)) := by
  unfold dOf DataW.atKey get
  simp only [find_ent]
  cases l.find? fun p => decide (p.1 = n) <;> rfl
theorem dOf_size (l : Files) : Maps.size (dOf l) = l.length := by
  show (l.map ent).length = _
  rw [List.length_map]

/-- What is done with files. -/
inductive Step where
  | write (n : ByteArray) (at_ : Nat) (s : ByteArray)
  | cut (n : ByteArray) (k : Nat)
  | move (a b : ByteArray)
  | drop (a : ByteArray)

/-- Bytes that are written over others. -/
def over (was : ByteArray) (k : Nat) (s : ByteArray) : ByteArray := (was.extract 0 k ++ s) ++ was.extract (min (k + s.size) was.size) was.size
def doS (m : Files) : Step → Files
  | .write n k s => put m n (over (get m n) k s)
  | .cut n k => put m n ((get m n).extract 0 k)
  | .move a b => put (without m a) b (get m a)
  | .drop a => without m a
/-- A step of which the first bytes alone are done. -/
def torn (k : Nat) : Step → Option Step
  | .write n p s => some (.write n p (s.extract 0 (min k s.size)))
  | _ => none
def runs (m : Files) (l : List Step) : Files := l.foldl doS m
theorem runs_snoc (m : Files) (l : List Step) (s : Step) : runs m (l ++ [s]) = doS (runs m l) s := by unfold runs; rw [List.foldl_append]; rfl

/-- No name, no file is longer than N, and there are no more. -/
def Small (N : Nat) (m : Files) : Prop := m.length ≤ N ∧ ∀ p ∈ m, p.1.size ≤ N ∧ p.2.size ≤ N
theorem Small.mono {N M : Nat} {m : Files} (h : Small N m) (hn : N ≤ M) : Small M m := ⟨by have := h.1; omega, fun p hp => by have := h.2 p hp; omega⟩
theorem small_nil (N : Nat) : Small N [] := ⟨Nat.zero_le _, fun p hp => by cases hp⟩
theorem mem_ins (x y : ByteArray × ByteArray) (l : Files) : y ∈ ins x l ↔ y = x ∨ y ∈ l := by
  induction l with
  | nil => simp [ins]
  | cons z l ih =>
    unfold ins
    split
    · simp
    · rw [List.mem_cons, ih, List.mem_cons]
      constructor
      · rintro (h | h | h)
        · exact .inr (.inl h)
        · exact .inl h
        · exact .inr (.inr h)
      · rintro (h | h | h)
        · exact .inr (.inl h)
        · exact .inl h
        · exact .inr (.inr h)
theorem ins_length (x : ByteArray × ByteArray) (l : Files) : (ins x l).length = l.length + 1 := by
  induction l with
  | nil => rfl
  | cons z l ih =>
    unfold ins
    split
    · rfl
    · rw [List.length_cons, ih, List.length_cons]
theorem mem_without (l : Files) (n : ByteArray) (p : ByteArray × ByteArray) : p ∈ without l n ↔ p ∈ l ∧ p.1 ≠ n := by unfold without; rw [List.mem_filter]; simp
theorem without_length (l : Files) (n : ByteArray) : (without l n).length ≤ l.length := List.length_filter_le _ _
theorem put_length (l : Files) (n s : ByteArray) : (put l n s).length ≤ l.length + 1 := by unfold put; rw [ins_length]; have := without_length l n; omega
theorem mem_put (l : Files) (n s : ByteArray) (p : ByteArray × ByteArray) : p ∈ put l n s ↔ p = (n, s) ∨ (p ∈ l ∧ p.1 ≠ n) := by unfold put; rw [mem_ins, mem_without]
theorem Small.without {N : Nat} {m : Files} (h : Small N m) (n : ByteArray) : Small N (without m n) := ⟨by have := without_length m n; have := h.1; omega, fun p hp => h.2 p ((mem_without _ _ _).1 hp).1⟩
theorem Small.put {N M : Nat} {m : Files} (h : Small N m) (n s : ByteArray) (hn : n.size ≤ M) (hs : s.size ≤ M) (hNM : N + 1 ≤ M) : Small M (put m n s) :=
  ⟨by have := put_length m n s; have := h.1; omega, fun p hp => by
    rcases (mem_put _ _ _ _).1 hp with rfl | ⟨h1, _⟩
    · exact ⟨hn, hs⟩
    · have := h.2 p h1; omega⟩
theorem Small.get {N : Nat} {m : Files} (h : Small N m) (n : ByteArray) : (get m n).size ≤ N := by
  unfold DK.get
  cases hf : m.find? fun p => decide (p.1 = n) with
  | none => simp
  | some p => exact (h.2 p (List.mem_of_find?_eq_some hf)).2
theorem size_over (was : ByteArray) (k : Nat) (s : ByteArray) (h : k ≤ was.size) : (over was k s).size = max (k + s.size) was.size := by
  unfold over
  simp only [ByteArray.size_append, ByteArray.size_extract]
  omega

/-- May a step be done with files? -/
def okS (m : Files) : Step → Prop
  | .write n k s => k ≤ (get m n).size ∧ s.size ≤ 2199023255552 ∧ n.size ≤ 2199023255552
  | .cut n k => k ≤ (get m n).size ∧ n.size ≤ 2199023255552
  | .move a b => a.size ≤ 2199023255552 ∧ b.size ≤ 2199023255552
  | .drop a => a.size ≤ 2199023255552
/-- How many bytes a step brings. -/
def brings : Step → Nat
  | .write n _ s => n.size + s.size + 1
  | .cut n _ => n.size + 1
  | .move _ b => b.size + 1
  | .drop _ => 0
theorem Small.step {N : Nat} {m : Files} (h : Small N m) (st : Step) (hok : okS m st) : Small (N + brings st) (doS m st) := by
  have hg := fun n => h.get n
  cases st with
  | write n k s =>
    refine h.put n _ (by dsimp only [brings]; omega) ?_ (by dsimp only [brings]; omega)
    have h1 : k ≤ (DK.get m n).size := hok.1
    rw [size_over _ _ _ h1]
    have := hg n
    dsimp only [brings]
    omega
  | cut n k =>
    refine h.put n _ (by dsimp only [brings]; omega) ?_ (by dsimp only [brings]; omega)
    rw [ByteArray.size_extract]
    have := hg n
    dsimp only [brings]
    omega
  | move a b =>
    refine (h.without a).put b _ (by dsimp only [brings]; omega) ?_ (by dsimp only [brings]; omega)
    have := hg a
    dsimp only [brings]
    omega
  | drop a => exact (h.without a).mono (Nat.le_add_right _ _)

/-- How many blocks bytes take. -/
def blk (n : Nat) : Nat := max 1 ((n + 31) / 32)
def blocks (l : Files) : Nat := (l.map fun p => blk p.2.size).sum
theorem blk_le {N n : Nat} (h : n ≤ N) : blk n ≤ N + 1 := by unfold blk; omega
theorem sum_le (N : Nat) (l : Files) (h : ∀ p ∈ l, p.2.size ≤ N) : blocks l ≤ l.length * (N + 1) := by
  unfold blocks
  induction l with
  | nil => simp
  | cons x l ih =>
    rw [List.map_cons, List.sum_cons, List.length_cons, Nat.add_mul, Nat.one_mul]
    have h1 := ih fun p hp => h p (List.mem_cons_of_mem _ hp)
    have h2 := blk_le (h x (List.mem_cons_self ..))
    omega

/-- A disk: room, what stays, what is read, what is pending, and whether it is dead, or dies some steps on. -/
structure D where
  room : Int
  safe : Files
  now : Files
  todo : List Step
  dead : Bool
  fused : Bool
  fuse : Int

/-- A disk that may be: what is pending has been done. -/
structure Good (N : Nat) (d : D) : Prop where
  now : d.now = runs d.safe d.todo
  steps : ∀ i (h : i < d.todo.length), okS (runs d.safe (d.todo.take i)) d.todo[i]
  small : ∀ i, i ≤ d.todo.length → Small N (runs d.safe (d.todo.take i))
  room : 0 ≤ d.room ∧ d.room ≤ 32768
  fuse : d.fused = true → d.dead = false → 0 ≤ d.fuse ∧ d.fuse ≤ 9223372036854775807
  len : d.todo.length ≤ N
theorem Good.mono {N M : Nat} {d : D} (h : Good N d) (hn : N ≤ M) : Good M d := ⟨h.now, h.steps, fun i hi => (h.small i hi).mono hn, h.room, h.fuse, by have := h.len; omega⟩
theorem Good.safe {N : Nat} {d : D} (h : Good N d) : Small N d.safe := h.small 0 (Nat.zero_le _)
theorem Good.nowS {N : Nat} {d : D} (h : Good N d) : Small N d.now := by
  have := h.small d.todo.length (Nat.le_refl _)
  rw [List.take_length] at this
  rw [h.now]
  exact this

def new (room : Int) : D := ⟨room, [], [], [], false, false, 0⟩
theorem new_good (N : Nat) {room : Int} (h : 0 ≤ room ∧ room ≤ 32768) : Good N (new room) :=
  ⟨rfl, fun i h => absurd h (Nat.not_lt_zero _), fun i hi => (by
    obtain rfl : i = 0 := Nat.le_zero.1 hi
    exact small_nil N), h, fun h => (by cases h), Nat.zero_le _⟩

/-- A step burns the fuse: does the disk die? -/
def burn (d : D) : D := if d.fused = true then { d with fuse := d.fuse - 1, dead := decide (d.fuse - 1 < 0) } else d
/-- A step is taken. -/
def took (d : D) (s : Step) : D := burn { d with todo := d.todo ++ [s], now := doS d.now s }
theorem burn_todo (d : D) : (burn d).todo = d.todo := by unfold burn; split <;> rfl
theorem burn_now (d : D) : (burn d).now = d.now := by unfold burn; split <;> rfl
theorem burn_safe (d : D) : (burn d).safe = d.safe := by unfold burn; split <;> rfl
theorem burn_room (d : D) : (burn d).room = d.room := by unfold burn; split <;> rfl
theorem Good.burn {N : Nat} {d : D} (h : Good N d) (hl : d.dead = false) : Good N (burn d) := by
  refine ⟨?_, ?_, ?_, ?_, ?_, ?_⟩
  · rw [burn_now, burn_safe, burn_todo]; exact h.now
  · simp only [burn_safe, burn_todo]; exact h.steps
  · rw [burn_safe, burn_todo]; exact h.small
  · rw [burn_room]; exact h.room
  · unfold DK.burn
    split
    · rename_i hf
      intro _ hd
      have h1 := of_decide_eq_false hd
      have h2 : d.dead = false := by
        cases hdd : d.dead with
        | false => rfl
        | true => exact absurd (hl.symm.trans hdd) (by simp)
      have := h.fuse hf h2
      show 0 ≤ d.fuse - 1 ∧ d.fuse - 1 ≤ 9223372036854775807
      omega
    · exact h.fuse
  · rw [burn_todo]; exact h.len
theorem Good.took {N : Nat} {d : D} (h : Good N d) (hl : d.dead = false) (s : Step) (hs : okS d.now s) : Good (N + brings s + 1) (took d s) := by
  refine Good.burn ⟨?_, ?_, ?_, h.room, h.fuse, ?_⟩ hl
  · show doS d.now s = runs d.safe (d.todo ++ [s])
    rw [runs_snoc, h.now]
  · intro i hi
    have hi' : i < (d.todo ++ [s]).length := hi
    rw [List.length_append] at hi'
    show okS (runs d.safe ((d.todo ++ [s]).take i)) ((d.todo ++ [s])[i]'hi)
    by_cases hlt : i < d.todo.length
    · rw [List.take_append_of_le_length (by omega), List.getElem_append_left hlt]
      exact h.steps i hlt
    · have hi2 : i = d.todo.length := by simp at hi'; omega
      subst hi2
      rw [List.take_append_of_le_length (Nat.le_refl _), List.take_length, List.getElem_append_right (Nat.le_refl _)]
      simp only [Nat.sub_self, List.getElem_cons_zero]
      rw [← h.now]
      exact hs
  · intro i hi
    have hi' : i ≤ (d.todo ++ [s]).length := hi
    show Small _ (runs d.safe ((d.todo ++ [s]).take i))
    by_cases hle : i ≤ d.todo.length
    · rw [List.take_append_of_le_length hle]
      exact (h.small i hle).mono (by omega)
    · rw [List.take_of_length_le (by rw [List.length_append] at *; simp at *; omega), runs_snoc, ← h.now]
      exact (h.nowS.step s hs).mono (by omega)
  · show (d.todo ++ [s]).length ≤ _
    rw [List.length_append]
    have := h.len
    simp
    omega
def sync (d : D) : D := let e := burn d; if e.dead = true then e else { e with safe := e.now, todo := [] }
def setFuse (d : D) (k : Int) : D := { d with fused := decide (0 ≤ k), fuse := k }
/-- The files that a crash leaves. -/
def left (d : D) (keep tk : Int) : Files :=
  let k := min keep.toNat d.todo.length
  let f := runs d.safe (d.todo.take k)
  match d.todo[k]? with
  | some s => if 0 < tk then (match torn tk.toNat s with | some s' => doS f s' | none => f) else f
  | none => f
def crash (d : D) (keep tk : Int) : D := ⟨d.room, left d keep tk, left d keep tk, [], false, false, 0⟩
end DK
end Go.Proofs.Ytfegfbhchdfibaa
