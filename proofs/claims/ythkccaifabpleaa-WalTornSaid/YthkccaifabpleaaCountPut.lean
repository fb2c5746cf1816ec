/- What Put answers: a number's bytes; none where there is no such number. -/
import Derived.Test.YthkccaifabpleaaCountGroups
import Derived.Test.YthkccaifabpleaaBytes
import Derived.Maps.AppendAt
namespace Go.Proofs.Ythkccaifabpleaa
open Go.RowKit Go.Shelf
attribute [local go_sem] Oper.semAt_some

theorem right_yes (n : Int) (w : World) (h : 0 ≤ n ∧ n ≤ 1073741824) :
    Calls Try.prog 30 #[.int .i64 n] w fun e w' => e = .returned (.bool true) ∧ w = w' := by
  obtain ⟨h1, h2⟩ := h
  go_enter Try.func30, Try.ntmps30
  go_wp2
  go_ret
  exact ⟨rfl, rfl⟩

theorem right_no (n : Int) (w : World) (h : ¬ (0 ≤ n ∧ n ≤ 1073741824)) :
    Calls Try.prog 30 #[.int .i64 n] w fun e w' => e = .returned (.bool false) ∧ w = w' := by
  by_cases h1 : 0 ≤ n
  · have h2 : ¬ n ≤ 1073741824 := fun h2 => h ⟨h1, h2⟩
    clear h
    go_enter Try.func30, Try.ntmps30
    go_wp2
    go_ret
    exact ⟨rfl, rfl⟩
  · clear h
    go_enter Try.func30, Try.ntmps30
    go_wp2
    go_ret
    exact ⟨rfl, rfl⟩

theorem row_cells {W : World} {base : Nat} {v : Value} {l : List UInt8} (h : W.ownsRow base 5 1 v l.length (l.map fun x => Value.int .u8 (x.toNat : Int))) :
    (convert 67 9 v).run Try.prog W = .ok (.string ⟨l.toArray⟩) W := by
  rcases h.2 with ⟨rfl, h0⟩ | ⟨g, cap, cur, rfl, _, _, _, _, _, _⟩
  · have : l = [] := List.length_eq_zero_iff.1 h0
    subst this
    exact run_convert_bytes_nil W 67 5 Try.underlying67 Try.underlying5 0 0 9 Try.underlying9
  · refine run_convert_bytes_back _ _ _ 5 _ cap l Try.underlying67 Try.underlying5 Try.underlying9 fun j hj => ?_
    have hp : (⟨g, 0, none⟩ : Addr).add j = ⟨g, j, none⟩ := by unfold Addr.add; split <;> simp_all
    rw [hp, h.cellAt j (by omega)]
    simp [hj]

/-- 'out = append(out, x)', out in a box: what the walk owes. -/
theorem boxed_app {w0 W w1 : World} {n₀ B : Nat} {t e : TypeId} {size : Nat} {v v' : Value} {k m : Nat} {xs ys : List Value} {tmp : Obj}
    (hv : Boxed W B t v) (hte : t ≠ e) (hrow : W.ownsRow n₀ e size v k xs) (hn₀ : n₀ ≤ W.heap.size) (h0 : Ext w0 W) (hw0 : w0.heap.size ≤ n₀) (hB : w0.heap.size ≤ B)
    (hown' : w1.ownsRow n₀ e size v' m ys) (hgrow : (W.alloc tmp).grownBy w1 v.ownBlock) :
    Boxed w1 B t v ∧ Boxed (w1.setCell ⟨B, 0, none⟩ v') B t v' ∧ (w1.setCell ⟨B, 0, none⟩ v').ownsRow n₀ e size v' m ys ∧ KeepsOthers W (w1.setCell ⟨B, 0, none⟩ v') ∧
      Ext w0 (w1.setCell ⟨B, 0, none⟩ v') ∧ (∀ C, C < n₀ → C ≠ B → (w1.setCell ⟨B, 0, none⟩ v').heap[C]? = W.heap[C]?) ∧ W.heap.size ≤ (w1.setCell ⟨B, 0, none⟩ v').heap.size := by
  have hv1 : Boxed w1 B t v := (hv.alloc tmp).kept hgrow (hv.not_row hte hrow)
  have hown : ∀ j, v.ownBlock = some j → n₀ ≤ j := by
    intro j ej
    rcases hrow.2 with ⟨rfl, _⟩ | ⟨g, cap, cur, rfl, hb, _, _⟩
    · simp [Value.ownBlock] at ej
    · obtain rfl : g = j := by simpa [Value.ownBlock] using ej
      exact hb
  have hs := hgrow.size
  rw [World.size_alloc] at hs
  refine ⟨hv1, hv1.set v', hown'.kept (grownBy_setCell' w1 B v') (.inr (hv1.not_row hte hown').symm), ?_, ?_, ?_, by rw [World.size_setCell]; omega⟩
  · refine ((KeepsOthers.alloc W tmp).trans (KeepsOthers.of_grownBy hgrow fun j o ej hj => ?_)).trans (KeepsOthers.setCell _ _ _)
    rcases (hrow.alloc tmp).2 with ⟨rfl, _⟩ | ⟨g, cap, cur, rfl, _, hgb, _⟩
    · simp [Value.ownBlock] at ej
    · obtain rfl : g = j := by simpa [Value.ownBlock] using ej
      rw [hgb] at hj; cases hj; rfl
  · exact ((h0.alloc tmp).grown hgrow fun j ej => Nat.le_trans hw0 (hown j ej)).setCell hB v'
  · intro C hC hne
    rw [Below.heap_setCell _ _ _ _ hne, hgrow.block C (by rw [World.size_alloc]; omega) (fun e' => by have := hown C e'.symm; omega), Below.heap_alloc _ _ _ (by omega)]

theorem info_byte : (Try.prog.info? 5).map (fun i => (i.zero, i.size, i.bytes)) = some (some (.int .u8 0), 1, 1) := by kernel_rfl

theorem grownBy_setCell_at (W : World) (a : Addr) (v : Value) : W.grownBy (W.setCell a v) (some a.block) :=
  ⟨rfl, rfl, rfl, by simp, fun k _ hk => Below.heap_setCell _ _ _ k (fun e => hk (by rw [e]))⟩

/-- Between two rounds: out, in its box, owns what has come; what was there lies as it lay. -/
def PutI (w : World) (pre : List UInt8) (W : World) : Prop :=
  (∃ v, Boxed W w.heap.size 67 v ∧ W.ownsRow (w.heap.size + 2) 5 1 v pre.length (pre.map fun x => Value.int .u8 (x.toNat : Int))) ∧ Ext w W ∧ w.heap.size + 2 ≤ W.heap.size

theorem own_ge {W : World} {base : Nat} {e : TypeId} {size : Nat} {v : Value} {k : Nat} {xs : List Value} (h : W.ownsRow base e size v k xs) {c : Nat} (hc : c < base) : v.ownBlock ≠ some c := by
  intro ej
  rcases h.2 with ⟨rfl, _⟩ | ⟨g, cap, cur, rfl, hb, _, _⟩
  · simp [Value.ownBlock] at ej
  · obtain rfl : g = c := by simpa [Value.ownBlock] using ej
    omega

theorem PutI.setCell {w : World} {pre : List UInt8} {W : World} (h : PutI w pre W) (a : Addr) (v : Value) (ha : a.block = w.heap.size + 1) : PutI w pre (W.setCell a v) := by
  obtain ⟨⟨u, hu, hr⟩, he, hs⟩ := h
  have hg := grownBy_setCell_at W a v
  rw [ha] at hg
  exact ⟨⟨u, hu.kept hg (by intro e; have := Option.some.inj e; omega), hr.kept hg (.inr (own_ge hr (by omega)))⟩, he.setCell (by omega) v, by rw [World.size_setCell]; exact hs⟩
theorem PutI.alloc {w : World} {pre : List UInt8} {W : World} (h : PutI w pre W) (o : Obj) : PutI w pre (W.alloc o) := by
  obtain ⟨⟨u, hu, hr⟩, he, hs⟩ := h
  exact ⟨⟨u, hu.alloc o, hr.alloc o⟩, he.alloc o, by rw [World.size_alloc]; omega⟩
theorem PutI.drew {w : World} {pre : List UInt8} {W : World} (h : PutI w pre W) : PutI w pre W.drew := by
  obtain ⟨⟨u, hu, hr⟩, he, hs⟩ := h
  exact ⟨⟨u, hu, hr⟩, he.drew, hs⟩
theorem PutI.putObj {w : World} {pre : List UInt8} {W : World} (h : PutI w pre W) (l : Nat) (o : Obj) (r : Loop) (hl : w.heap.size + 2 ≤ l) (hk : W.heap[l]? = some (.loop r)) : PutI w pre (W.putObj l o) := by
  obtain ⟨⟨u, hu, hr⟩, he, hs⟩ := h
  exact ⟨⟨u, hu.kept (grownBy_putObj' W l o) (by intro e; have := Option.some.inj e; omega), ownsRow_putObj hr o hk rfl⟩, he.grown (grownBy_putObj' W l o) (by intro k e; injection e; omega), by rw [World.putObj_size]; exact hs⟩

set_option maxRecDepth 100000 in
set_option maxHeartbeats 2000000 in
theorem put_yes (n : Nat) (w : World) (h : n ≤ 1073741824) :
    Calls Try.prog 20 #[.int .i64 n] w fun e w' => e = .returned (.string ⟨(Count.put n).toArray⟩) ∧ Ext w w' := by
  obtain ⟨i0, hi, hz0, hz1, hz2⟩ := info_parts info_byte
  have Hi := Lib.hid hi
  clear hi
  refine callsIn_wide (n := 10).1 ?_
  refine callsIn_of_wp_marks Try.func20 rfl trivial ?_ rfl
  simp only [Try.ntmps20, List.size_toArray, List.length_cons, List.length_nil, Nat.reduceAdd, Nat.reduceSub, Array.replicate_succ, Array.replicate_zero, List.push_toArray, List.append_toArray, List.nil_append, List.cons_append]
  gi_wp2_with (first | (refine ⟨trivial, ?_⟩; gi_at_call 30; refine (callsIn_wide.2 (right_yes _ _ ?_)).mono ?_; (exact ⟨by omega, by omega⟩); rintro e w' ⟨rfl, rfl⟩) | (refine ⟨trivial, ?_⟩; gi_at_call 31; refine (callsIn_wide.2 (groups_any _ _)).mono ?_; rintro e w' ⟨rfl, rfl⟩))
  have bO := Boxed.new w 67 (.slice none 0 0)
  have hc0 : ((w.alloc (.cells #[.slice none 0 0] 67)).alloc (.cells #[.int .i64 n] 3)).cell? ⟨w.heap.size + 1, 0, none⟩ = some (.int .i64 n) := (World.cell?_alloc_at _ _ _ _ (by simp)).trans rfl
  have hf0 : ((w.alloc (.cells #[.slice none 0 0] 67)).alloc (.cells #[.int .i64 n] 3)).frozen? ⟨w.heap.size + 1, 0, none⟩ = false := World.frozen?_alloc_at _ _ _ _ (by simp)
  have hI0 : PutI w [] ((w.alloc (.cells #[.slice none 0 0] 67)).alloc (.cells #[.int .i64 n] 3)) :=
    ⟨⟨_, bO.alloc _, World.ownsRow_nil _ _ _ _⟩, ((Ext.refl _).alloc _).alloc _, by simp⟩
  refine range_st (F := Fence.wide) rfl (by omega) (gf := 45) (lb := #[.pointer (some ⟨w.heap.size + 1, 0, none⟩)]) rfl trivial (enters_of Try.func45 (by kernel_rfl) rfl)
    (groups_seq (w.heap.size + 1) n 9 _ h hc0 hf0) (by rintro B rfl; simp) (fun _ => rfl) (PutI w)
    (fun pre W a v ha hi => hi.setCell a v ha) (fun pre W o hi => hi.alloc o) (fun pre W hi => hi.drew) (fun pre W l o r hi hl hk => hi.putObj l o r (by simp at hl; omega) hk) hI0
    (fun x => { tmps := #[.int .i64 n, undef, .string ⟨#[]⟩, .pointer (some ⟨w.heap.size, 0, none⟩), .int .u8 (x.toNat : Int), .int .i64 n, .bool true, .bool false, .int .i64 n, .func (.func 45) #[] #[.pointer (some ⟨w.heap.size + 1, 0, none⟩)], .int .u8 (x.toNat : Int), undef, undef, undef, undef, undef, undef], defers := [] }) ?assign ?body ?done
  case assign =>
    intro l x W K hK
    gi_wp2
    exact hK
  case body =>
    rintro l pre x rest W hx ⟨⟨v, hv, hrow⟩, hE, hS⟩
    have hlen := Count.put_length5 h
    rw [hx, List.length_append] at hlen
    have hcv := hv.cell
    have b1 : pre.length + 1 ≤ maxLen := by unfold maxLen; omega
    have b2 : (pre.length + 1) * 1 ≤ 140737488355328 := by omega
    have b3 : w.heap.size + 2 ≤ (W.alloc (.cells #[.int .u8 (x.toNat : Int)] 5)).heap.size := by rw [World.size_alloc]; omega
    clear hx hlen
    gi_wp2_with (gi_at_builtin; refine wpListIn_append_own _ rfl _ _ 67 rfl (w.heap.size + 2) 5 i0 (.int .u8 0) 1 1 Try.underlying67 Hi.out hz0 hz1 hz2 rfl (by decide) _ _ _ rfl (hrow.alloc _) ⟨W.heap.size, 0, none⟩ 1 1 [.int .u8 (x.toNat : Int)] rfl rfl (cell_one_new _ _ _) (by simp [Value.oneCell']) b1 b2 b3 ?_; intro v' w1 hown' hgrow _; obtain ⟨g', cap', rfl⟩ := ownsRow_succ hown'; obtain ⟨hv1, hv2, hr2, hk2, he2, hc2, hs2⟩ := boxed_app hv (by decide) hrow (by omega) hE (by omega) (Nat.le_refl _) hown' hgrow; have hc1 := hv1.cell; have hf1 := hv1.frozen)
    exact ⟨hk2, fun B hB => hc2 B (by omega) (by omega), ⟨_, hv2, by simpa using hr2⟩, he2, by omega⟩
  case done =>
    rintro D W hD ⟨⟨v, hv, hrow⟩, hE, hS⟩ hK
    have hc := hv.cell
    have hcv := row_cells hrow
    rw [World.size_alloc, World.size_alloc] at hD
    gi_wp2
    refine ⟨by simp, .inl ⟨_, _, rfl, run_takeDeferred hK, ?_⟩⟩
    exact ⟨_, results_tmp rfl _ _ _, rfl, hE.grown (grownBy_putObj' W D _) (by intro k e; have := Option.some.inj e; omega)⟩

theorem put_no (n : Int) (w : World) (h : ¬ (0 ≤ n ∧ n ≤ 1073741824)) :
    Calls Try.prog 20 #[.int .i64 n] w fun e w' => e = .returned (.string ⟨#[]⟩) ∧ Ext w w' := by
  go_enter Try.func20, Try.ntmps20
  go_wp2_with fail
  refine (right_no n _ h).mono ?_
  rintro e w' ⟨rfl, rfl⟩
  go_wp2
  go_ret
  exact ⟨rfl, Ext.refl _⟩

/-- What Put answers. -/
theorem put_any (n : Int) (w : World) :
    Calls Try.prog 20 #[.int .i64 n] w fun e w' => e = .returned (.string ⟨(Count.putL n).toArray⟩) ∧ Ext w w' := by
  by_cases h : 0 ≤ n ∧ n ≤ 1073741824
  · obtain ⟨m, rfl⟩ := Int.eq_ofNat_of_zero_le h.1
    have := put_yes m w (by omega)
    unfold Count.putL
    rw [if_pos h]
    exact this
  · have := put_no n w h
    unfold Count.putL
    rw [if_neg h]
    exact this

end Go.Proofs.Ythkccaifabpleaa
