/- What Line, Ring and Star answer. -/
import Derived.Test.YtcnjklbmlplehaaGraphNew
import Derived.Test.YtcnjklbmlplehaaShapes2
namespace Go.Proofs.Ytcnjklbmlplehaa
open Go.RowKit

theorem results_row_tmp {P : Program} {fn : Func} {p u : Tmp} {ty : TypeId} (h : fn.results = #[.cell p ty, .tmp u]) (tmps : Array Value) (w : World) (g : Nat) (t : TypeId) (cs : Array Value) (fr : Nat × Nat) (d : TypeDesc)
    (hp : tmps.getD p undef = .pointer (some ⟨g, 0, none⟩)) (hg : w.heap[g]? = some (.cells cs t fr))
    (hu : P.underlying ty = some d) (hd : (match d with | .struct _ | .array _ _ => true | _ => false) = true) (hi : (P.info? ty).map (·.size) = some cs.size) :
    (results fn tmps).run P w = .ok (.tuple #[.agg cs, tmps.getD u undef]) w := by
  rw [results_cell_tmp h tmps P w]
  simp [hp, asAddr, run_loadVar_row w g t ty cs fr d hg hu hd hi, Result.andThen]

/-- What a graph of edges that are told comes to. -/
def OfPost (w : World) (peers : Int) (K : Nat) (l : List GR.Ed) (e : Ending) (w' : World) : Prop :=
  (1 ≤ peers ∧ peers ≤ 64 → ∃ v, e = .returned v ∧ GraphV w' v K (GR.adjOf l)) ∧ (¬ (1 ≤ peers ∧ peers ≤ 64) → e = .returned (.pointer none)) ∧ Ext w w'

set_option maxRecDepth 100000 in
set_option maxHeartbeats 2000000 in
theorem graph_of (peers : Int) (K : Nat) (hK : (K : Int) = max 0 (min peers 64)) (F : Nat) (caps : Array Value) (ed : Nat → GR.Ed) (is : Nat → Bool) (w : World) (eg : ∀ args w, (callFunc F args).run Try.prog w = .ok (.enter F args) w)
    (hcl : ∀ (p : Nat) W, p < K → Ext w W → Calls Try.prog F (#[.int .i64 p] ++ caps) W fun e w' => e = .returned (.tuple #[.agg #[.int .i64 (ed p).1, .int .i64 (ed p).2], .bool (is p)]) ∧ Ext W w') (hok : 1 ≤ peers ∧ peers ≤ 64 → GR.OkE K (GR.edsOf ed is K)) :
    Calls Try.prog 20 #[.int .i64 peers, .func (.func F) #[] caps] w (OfPost w peers K (GR.edsOf ed is K)) := by
  obtain ⟨i0, hi, hz0, hz1, hz2⟩ := info_parts info_edge
  have Hi := Lib.hid hi
  have HCL := Lib.hid hcl
  have HOK := Lib.hid hok
  have hK2 : K ≤ 64 := by omega
  have HK := Lib.hid hK
  have hk1 : max 0 (min peers 64) = (K : Int) := hK.symm
  clear hi hcl hok hK
  go_enter Try.func20, Try.ntmps20
  go_wp2
  clear hk1
  go_loopw [5, 14] (fun ov i wr => ∃ (k : Nat) (out : List GR.Ed), k ≤ K ∧ i = .int .i64 k ∧ EdR w wr 55 ov out ∧ Hid (out = GR.edsOf ed is k)) (fun _ i _ => K - (intOf i).toNat)
  case atStart => exact ⟨0, [], by omega, rfl, ⟨World.ownsRow_nil _ _ _ _, Ext.refl _⟩, Lib.hid rfl⟩
  case round =>
    obtain ⟨k, out, hk, rfl, hI, HO⟩ := hrel
    obtain ⟨p1, q1, rfl⟩ := row_slice hI.row
    have hlen : out.length ≤ k := by rw [HO.out]; exact GR.edsOf_length ..
    by_cases hlt : k < K
    · have hcall := HCL.out k wr hlt hI.ext
      have hnx := GR.edsOf_next ed is k
      rw [← HO.out] at hnx
      have HC := Lib.hid hcall
      have HNX := Lib.hid hnx
      have HI := Lib.hid hI
      generalize ed k = d at *
      obtain ⟨bb, hbb⟩ : ∃ b, is k = b := ⟨_, rfl⟩
      rw [hbb] at HC HNX
      clear hcall hnx hI hbb
      go_wp2_with fail
      refine HC.out.mono ?_
      rintro e w1 ⟨rfl, g1⟩
      have hal : Ext w1 (w1.alloc (.cells #[.int .i64 d.1, .int .i64 d.2] 55)) := (Ext.refl _).alloc _
      have hI2 := HI.out.more (g1.trans hal)
      have HI2 := Lib.hid hI2
      have b1 := (Two.new w1 55 (.int .i64 d.1) (.int .i64 d.2)).c0
      have b2 := (Two.new w1 55 (.int .i64 d.1) (.int .i64 d.2)).c1
      clear hI2
      cases bb with
      | false =>
        go_wp2
        go_roundw
        case rel => exact ⟨k + 1, out, by omega, by go_num, HI2.out, Lib.hid (by rw [HNX.out]; simp)⟩
        case measure => simp [intOf]; omega
      | true =>
        have hrow := HI2.out.row.alloc (.cells #[.int .i64 d.1, .int .i64 d.2] 55)
        have HROW := Lib.hid hrow
        have hs1 : w.heap.size ≤ w1.heap.size := (HI.out.ext.trans g1).size
        have hs2 : w.heap.size ≤ ((w1.alloc (.cells #[.int .i64 d.1, .int .i64 d.2] 55)).alloc (.cells #[.int .i64 d.1, .int .i64 d.2] 55)).heap.size := by rw [World.size_alloc, World.size_alloc]; omega
        have hb1 : out.length + 1 ≤ maxLen := by unfold maxLen; omega
        have hb2 : (out.length + 1) * 16 ≤ 140737488355328 := by omega
        have hnew := cell_two_new (w1.alloc (.cells #[.int .i64 d.1, .int .i64 d.2] 55)) (.int .i64 d.1) (.int .i64 d.2) 55
        rw [World.size_alloc] at hnew
        have HNEW := Lib.hid hnew
        clear hrow hnew
        go_wp2_with (at_builtin; refine wpList_append_own_at _ rfl _ _ 39 rfl w.heap.size 55 i0 (.agg #[.int .i64 0, .int .i64 0]) 2 16 Try.underlying39 Hi.out hz0 hz1 hz2 rfl (by decide) _ _ _ rfl HROW.out ⟨w1.heap.size + 1, 0, none⟩ 1 1 [.int .i64 d.1, .int .i64 d.2] rfl rfl HNEW.out (by simp [Value.oneCell']) hb1 hb2 hs2 ?_; intro v' w6 hown' hgrow _ hat)
        go_roundw
        case rel =>
          refine ⟨k + 1, out ++ [d], by omega, by go_num, ⟨?_, ext_grownV (HI2.out.ext.alloc _) HROW.out hgrow (Nat.le_refl _)⟩, Lib.hid (by rw [HNX.out]; simp)⟩
          rw [edCells_app, List.length_append]
          exact hown'
        case measure => simp [intOf]; omega
    · obtain rfl : k = K := by omega
      have HI := Lib.hid hI
      clear hI
      by_cases hp : 1 ≤ peers ∧ peers ≤ 64
      · have hpk : peers = (k : Int) := by have := HK.out; omega
        have hnew := graph_new (.slice p1 out.length q1) out k wr (by omega) (by omega) (row_eds HI.out.row (by omega)) (by omega)
        have hno : ¬ (out.any (GR.badE k) = true) := by
          rw [List.any_eq_true]
          rintro ⟨e, he, hb⟩
          rw [HO.out] at he
          rw [HOK.out hp e he] at hb
          cases hb
        subst hpk
        have HN := Lib.hid hnew
        have HNO := Lib.hid hno
        have HPP := Lib.hid hp
        clear hnew hno hp
        go_wp2_with fail
        refine HN.out.mono ?_
        rintro e w7 hpost
        unfold NewPost at hpost
        rw [if_neg HNO.out] at hpost
        obtain ⟨v, rfl, hv, g7⟩ := hpost
        have HV := Lib.hid hv
        clear hv
        go_wp2
        go_ret
        exact ⟨fun _ => ⟨v, rfl, by rw [← HO.out]; exact HV.out⟩, fun h => absurd HPP.out h, HI.out.ext.trans g7⟩
      · have HN := Lib.hid (graph_new_count (.slice p1 out.length q1) peers wr (by omega))
        have HPP := Lib.hid hp
        clear hp
        go_wp2_with fail
        refine HN.out.mono ?_
        rintro e w7 ⟨rfl, g7⟩
        go_wp2
        go_ret
        exact ⟨fun h => absurd h HPP.out, fun _ => rfl, HI.out.ext.trans g7⟩
end Go.Proofs.Ytcnjklbmlplehaa
