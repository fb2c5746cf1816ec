/- One turn of the document's Add's second loop. PRINTED BY mk_refturn.py. -/
import Derived.Test.YtdgjjlffdfpkcaaRefAddNo
import Derived.Deep.RegionHeld3
namespace Go.Proofs.Ytdgjjlffdfpkcaa
open Go.RowKit
attribute [local go_sem] Oper.semAt_some

/-- The number of the first region. -/
def headRegion : Code → Option Nat
  | .region id _ _ => some id
  | .seq a _ => headRegion a
  | .block _ c => headRegion c
  | .loop c => headRegion c
  | _ => none
/-- The body of the loop whose first region is k. -/
def loopAt (k : Nat) : Code → Option Code
  | .loop c => if headRegion c = some k then some c else loopAt k c
  | .seq a b => (loopAt k a).orElse fun _ => loopAt k b
  | .cond _ a b => (loopAt k a).orElse fun _ => loopAt k b
  | .block _ c => loopAt k c
  | _ => none

set_option maxRecDepth 100000 in
set_option maxHeartbeats 4000000 in
theorem add_next {wr : World} (D0 R0 X : Nat) (p g : Int) (p1 : Option Addr) (n1 c1 : Nat) (r1 : wr.cell? ⟨D0, 0, none⟩ = some (.int .i64 p)) (r2 : wr.cell? ⟨X, 0, none⟩ = some (.slice p1 n1 c1))
    (HGE : Hid (∀ W, Ext wr W → Calls Try.prog 33 #[.slice p1 n1 c1, .int .i64 p] W fun e w' => e = .returned (.int .i64 g) ∧ Ext W w')) (hg1 : 0 ≤ g) (hg2 : g ≤ 1048576) (Q : Exit → Act → World → Prop) (u0 u1 u2 u5 u7 u8 u9 u10 u11 u12 u13 u14 u15 u16 u17 u18 u19 u20 u21 u22 u23 u24 u25 u26 u27 u28 u29 u30 u31 u32 u33 u34 u35 u36 u37 u38 u39 u40 u41 u42 u43 u44 u45 u46 u47 u48 u49 u50 u51 u52 u53 u54 u55 u56 u57 u58 u59 u60 u61 u62 u63 u64 u65 u66 u67 u68 u69 u70 u71 u72 u73 u74 u75 u76 u77 u78 u79 u80 u81 u82 u83 u84 u85 u86 u87 u88 u89 u90 u91 u92 u93 u94 u95 u96 u97 u98 u99 u100 u101 u102 u103 u104 u105 u106 u107 u108 u109 u110 u111 u112 u113 u114 u115 u116 u117 u118 u119 u120 u121 u122 u123 u124 u125 u126 u127 u128 : Value)
    (hQ : Hid (∀ (W : World) (Y : Nat) (v85 v86 v87 v88 v89 v90 v91 v92 v93 : Value), Two W Y 26 (.int .i64 p) (.int .i64 (g + 1)) → Ext wr W → wr.heap.size ≤ Y → Q .normal { tmps := (u0 :: u1 :: u2 :: .pointer (some ⟨D0, 0, none⟩) :: .pointer (some ⟨R0, 0, none⟩) :: u5 :: .pointer (some ⟨X, 0, none⟩) :: u7 :: u8 :: u9 :: u10 :: .pointer (some ⟨Y, 0, none⟩) :: u12 :: u13 :: u14 :: u15 :: u16 :: u17 :: u18 :: u19 :: u20 :: u21 :: u22 :: u23 :: u24 :: u25 :: u26 :: u27 :: u28 :: u29 :: u30 :: u31 :: u32 :: u33 :: u34 :: u35 :: u36 :: u37 :: u38 :: u39 :: u40 :: u41 :: u42 :: u43 :: u44 :: u45 :: u46 :: u47 :: u48 :: u49 :: u50 :: u51 :: u52 :: u53 :: u54 :: u55 :: u56 :: u57 :: u58 :: u59 :: u60 :: u61 :: u62 :: u63 :: u64 :: u65 :: u66 :: u67 :: u68 :: u69 :: u70 :: u71 :: u72 :: u73 :: u74 :: u75 :: u76 :: u77 :: u78 :: u79 :: u80 :: u81 :: u82 :: u83 :: u84 :: v85 :: v86 :: v87 :: v88 :: v89 :: v90 :: v91 :: v92 :: v93 :: u94 :: u95 :: u96 :: u97 :: u98 :: u99 :: u100 :: u101 :: u102 :: u103 :: u104 :: u105 :: u106 :: u107 :: u108 :: u109 :: u110 :: u111 :: u112 :: u113 :: u114 :: u115 :: u116 :: u117 :: u118 :: u119 :: u120 :: u121 :: u122 :: u123 :: u124 :: u125 :: u126 :: u127 :: u128 :: ([] : List Value)).toArray, defers := [] } W))
    (c : Code) (hc : (Try.f21.body.bind (regionOf 14)) = some c) :
    c.wp Try.prog Q { tmps := (u0 :: u1 :: u2 :: .pointer (some ⟨D0, 0, none⟩) :: .pointer (some ⟨R0, 0, none⟩) :: u5 :: .pointer (some ⟨X, 0, none⟩) :: u7 :: u8 :: u9 :: u10 :: u11 :: u12 :: u13 :: u14 :: u15 :: u16 :: u17 :: u18 :: u19 :: u20 :: u21 :: u22 :: u23 :: u24 :: u25 :: u26 :: u27 :: u28 :: u29 :: u30 :: u31 :: u32 :: u33 :: u34 :: u35 :: u36 :: u37 :: u38 :: u39 :: u40 :: u41 :: u42 :: u43 :: u44 :: u45 :: u46 :: u47 :: u48 :: u49 :: u50 :: u51 :: u52 :: u53 :: u54 :: u55 :: u56 :: u57 :: u58 :: u59 :: u60 :: u61 :: u62 :: u63 :: u64 :: u65 :: u66 :: u67 :: u68 :: u69 :: u70 :: u71 :: u72 :: u73 :: u74 :: u75 :: u76 :: u77 :: u78 :: u79 :: u80 :: u81 :: u82 :: u83 :: u84 :: u85 :: u86 :: u87 :: u88 :: u89 :: u90 :: u91 :: u92 :: u93 :: u94 :: u95 :: u96 :: u97 :: u98 :: u99 :: u100 :: u101 :: u102 :: u103 :: u104 :: u105 :: u106 :: u107 :: u108 :: u109 :: u110 :: u111 :: u112 :: u113 :: u114 :: u115 :: u116 :: u117 :: u118 :: u119 :: u120 :: u121 :: u122 :: u123 :: u124 :: u125 :: u126 :: u127 :: u128 :: ([] : List Value)).toArray, defers := [] } wr := by
  simp [Try.f21, regionOf] at hc
  subst hc
  have xA := (Ext.refl wr).alloc (.cells #[.int .i64 0, .int .i64 0] 26)
  have r3 := xA.cell r1
  have r4 := xA.cell r2
  have HW : Hid (IntKind.i64.wrap (g + 1) = g + 1) := Lib.hid (IntWalk.i64_in (g + 1) ⟨by omega, by omega⟩)
  have hw := HW.out
  refine wp_region_noPanic ?_
  go_region_with (first
    | (go_at_call 33; refine (HGE.out _ (Ext.refl _).drew).mono ?_; rintro e w5 ⟨rfl, g5⟩; have x5 := (Ext.refl wr).drew.trans g5; have t1 := x5.cell r1; have t2 := ((Ext.refl w5).alloc (.cells #[.int .i64 0, .int .i64 0] 26)).cell t1; have HFIN : Hid (Two (w5.alloc (.cells #[.int .i64 p, .int .i64 (g + 1)] 26)) w5.heap.size 26 (.int .i64 p) (.int .i64 (g + 1)) ∧ Ext wr (w5.alloc (.cells #[.int .i64 p, .int .i64 (g + 1)] 26)) ∧ wr.heap.size ≤ w5.heap.size) := Lib.hid ⟨Two.new _ _ _ _, x5.alloc _, x5.size⟩)
    | (go_at_call 33; refine (HGE.out _ ((Ext.refl _).alloc _).drew).mono ?_; rintro e w5 ⟨rfl, g5⟩; have x5 := xA.drew.trans g5; have t1 := x5.cell r1; have tw := (Two.new wr 26 (.int .i64 0) (.int .i64 0)).ext ((Ext.refl _).drew.trans g5); have v1 := tw.c0; have v2 := tw.c1; have v3 := tw.f0; have v4 := tw.f1; have HFIN : Hid (Two ((w5.setCell ⟨wr.heap.size, 0, none⟩ (.int .i64 p)).setCell ⟨wr.heap.size, 1, none⟩ (.int .i64 (g + 1))) wr.heap.size 26 (.int .i64 p) (.int .i64 (g + 1)) ∧ Ext wr ((w5.setCell ⟨wr.heap.size, 0, none⟩ (.int .i64 p)).setCell ⟨wr.heap.size, 1, none⟩ (.int .i64 (g + 1))) ∧ wr.heap.size ≤ wr.heap.size) := Lib.hid ⟨(tw.set0 _).set1 _, ext_grownBy (ext_grownBy x5 (grown_setCell _ _ _ _) (Nat.le_refl _)) (grown_setCell _ _ _ _) (Nat.le_refl _), Nat.le_refl _⟩))
  all_goals
    refine NoPanic.normal ?_
    go_wp2_with fail
    exact hQ.out _ _ _ _ _ _ _ _ _ _ _ HFIN.out.1 HFIN.out.2.1 HFIN.out.2.2
end Go.Proofs.Ytdgjjlffdfpkcaa
