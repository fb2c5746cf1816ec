/- What Size answers: how many bytes a number has. -/
import Derived.Test.YtjpnicocihpocaaCountPut
namespace Go.Proofs.Ytjpnicocihpocaa
open Go.RowKit Go.Shelf
attribute [local go_sem] Oper.semAt_some

/-- Between two rounds: the count, in its box; what was there lies as it lay. -/
def SizeI (w : World) (pre : List UInt8) (W : World) : Prop :=
  Boxed W w.heap.size 3 (.int .i64 (pre.length : Int)) ∧ Ext w W ∧ w.heap.size + 2 ≤ W.heap.size

theorem SizeI.setCell {w : World} {pre : List UInt8} {W : World} (h : SizeI w pre W) (a : Addr) (v : Value) (ha : a.block = w.heap.size + 1) : SizeI w pre (W.setCell a v) := by
  obtain ⟨hu, he, hs⟩ := h
  have hg := grownBy_setCell_at W a v
  rw [ha] at hg
  exact ⟨hu.kept hg (by intro e; have := Option.some.inj e; omega), he.setCell (by omega) v, by rw [World.size_setCell]; exact hs⟩
theorem SizeI.alloc {w : World} {pre : List UInt8} {W : World} (h : SizeI w pre W) (o : Obj) : SizeI w pre (W.alloc o) := by
  obtain ⟨hu, he, hs⟩ := h
  exact ⟨hu.alloc o, he.alloc o, by rw [World.size_alloc]; omega⟩
theorem SizeI.drew {w : World} {pre : List UInt8} {W : World} (h : SizeI w pre W) : SizeI w pre W.drew := by
  obtain ⟨hu, he, hs⟩ := h
  exact ⟨hu, he.drew, hs⟩
theorem SizeI.putObj {w : World} {pre : List UInt8} {W : World} (h : SizeI w pre W) (l : Nat) (o : Obj) (hl : w.heap.size + 2 ≤ l) : SizeI w pre (W.putObj l o) := by
  obtain ⟨hu, he, hs⟩ := h
  exact ⟨hu.kept (grownBy_putObj' W l o) (by intro e; have := Option.some.inj e; omega), he.grown (grownBy_putObj' W l o) (by intro k e; have := Option.some.inj e; omega), by rw [World.putObj_size]; exact hs⟩

set_option maxRecDepth 100000 in
set_option maxHeartbeats 2000000 in
theorem size_yes (n : Nat) (w : World) (h : n ≤ 1073741824) :
    Calls Try.prog 10 #[.int .i64 n] w fun e w' => e = .returned (.int .i64 ((Count.put n).length : Int)) ∧ Ext w w' := by
  refine callsIn_wide (n := 10).1 ?_
  refine callsIn_of_wp_marks Try.func10 rfl trivial ?_ rfl
  simp only [Try.ntmps10, List.size_toArray, List.length_cons, List.length_nil, Nat.reduceAdd, Nat.reduceSub, Array.replicate_succ, Array.replicate_zero, List.push_toArray, List.append_toArray, List.nil_append, List.cons_append]
  gi_wp2_with (first | (refine ⟨trivial, ?_⟩; gi_at_call 14; refine (callsIn_wide.2 (right_yes _ _ ?_)).mono ?_; (exact ⟨by omega, by omega⟩); rintro e w' ⟨rfl, rfl⟩) | (refine ⟨trivial, ?_⟩; gi_at_call 15; refine (callsIn_wide.2 (groups_any _ _)).mono ?_; rintro e w' ⟨rfl, rfl⟩))
  have bO := Boxed.new w 3 (.int .i64 0)
  have hc0 : ((w.alloc (.cells #[.int .i64 0] 3)).alloc (.cells #[.int .i64 n] 3)).cell? ⟨w.heap.size + 1, 0, none⟩ = some (.int .i64 n) := (World.cell?_alloc_at _ _ _ _ (by simp)).trans rfl
  have hf0 : ((w.alloc (.cells #[.int .i64 0] 3)).alloc (.cells #[.int .i64 n] 3)).frozen? ⟨w.heap.size + 1, 0, none⟩ = false := World.frozen?_alloc_at _ _ _ _ (by simp)
  have hI0 : SizeI w [] ((w.alloc (.cells #[.int .i64 0] 3)).alloc (.cells #[.int .i64 n] 3)) :=
    ⟨bO.alloc _, ((Ext.refl _).alloc _).alloc _, by simp⟩
  refine range_st (F := Fence.wide) rfl (by omega) (gf := 17) (lb := #[.pointer (some ⟨w.heap.size + 1, 0, none⟩)]) rfl trivial (enters_of Try.func17 (by kernel_rfl) rfl)
    (groups_seq (w.heap.size + 1) n 9 _ h hc0 hf0) (by rintro B rfl; simp) (fun _ => rfl) (SizeI w)
    (fun pre W a v ha hi => hi.setCell a v ha) (fun pre W o hi => hi.alloc o) (fun pre W hi => hi.drew) (fun pre W l o r hi hl hk => hi.putObj l o (by simp at hl; omega)) hI0
    (fun x => { tmps := #[.int .i64 n, undef, .int .i64 0, .pointer (some ⟨w.heap.size, 0, none⟩), .int .i64 n, .bool true, .bool false, .int .i64 n, .func (.func 17) #[] #[.pointer (some ⟨w.heap.size + 1, 0, none⟩)], .int .u8 (x.toNat : Int), undef, undef, undef], defers := [] }) ?assign ?body ?done
  case assign =>
    intro l x W K hK
    gi_wp2
    simp
    exact hK
  case body =>
    rintro l pre x rest W hx ⟨hv, hE, hS⟩
    have hlen := Count.put_length5 h
    rw [hx, List.length_append] at hlen
    have hl5 : pre.length ≤ 5 := by omega
    have hcv := hv.cell
    have hfv := hv.frozen
    clear hx hlen
    gi_wp2
    have hset := hv.set (.int .i64 ((pre ++ [x]).length : Int))
    have e1 : ((pre ++ [x]).length : Int) = (pre.length : Int) + 1 := by simp
    rw [e1] at hset
    refine ⟨KeepsOthers.setCell _ _ _, fun B (hB : B = w.heap.size + 1) => Below.heap_setCell _ _ _ _ (by show B ≠ w.heap.size; omega), ?_, hE.setCell (Nat.le_refl _) _, by rw [World.size_setCell]; exact hS⟩
    rw [e1]
    exact hset
  case done =>
    rintro D W hD ⟨hv, hE, hS⟩ hK
    have hc := hv.cell
    rw [World.size_alloc, World.size_alloc] at hD
    gi_wp2
    refine ⟨by simp, .inl ⟨_, _, rfl, run_takeDeferred hK, ?_⟩⟩
    exact ⟨_, results_tmp rfl _ _ _, rfl, hE.grown (grownBy_putObj' W D _) (by intro k e; have := Option.some.inj e; omega)⟩

theorem size_no (n : Int) (w : World) (h : ¬ (0 ≤ n ∧ n ≤ 1073741824)) :
    Calls Try.prog 10 #[.int .i64 n] w fun e w' => e = .returned (.int .i64 0) ∧ Ext w w' := by
  go_enter Try.func10, Try.ntmps10
  go_wp2_with fail
  refine (right_no n _ h).mono ?_
  rintro e w' ⟨rfl, rfl⟩
  go_wp2
  go_ret
  exact ⟨rfl, Ext.refl _⟩

/-- What Size answers. -/
theorem size_any (n : Int) (w : World) :
    Calls Try.prog 10 #[.int .i64 n] w fun e w' => e = .returned (.int .i64 ((Count.putL n).length : Int)) ∧ Ext w w' := by
  by_cases h : 0 ≤ n ∧ n ≤ 1073741824
  · obtain ⟨m, rfl⟩ := Int.eq_ofNat_of_zero_le h.1
    have := size_yes m w (by omega)
    unfold Count.putL
    rw [if_pos h]
    exact this
  · have := size_no n w h
    unfold Count.putL
    rw [if_neg h]
    exact this

end Go.Proofs.Ytjpnicocihpocaa
