/- The document's files behind a step. -/
import Derived.Test.YtfegfbhchdfibaaDocWith
import Derived.Deep.RegionLaw
import Derived.Deep.RegionHeld3
namespace Go.Proofs.Ytfegfbhchdfibaa
open Go.RowKit

structure RStep where
  kind : Int
  name : ByteArray
  to_ : ByteArray
  at_ : Int
  s : ByteArray
def rsCells (y : RStep) : Array Value := #[.int .i64 y.kind, .string y.name, .string y.to_, .int .i64 y.at_, .string y.s]
def RStep.st (y : RStep) : DK.Step := if y.kind = 0 then .write y.name y.at_.toNat y.s else if y.kind = 1 then .cut y.name y.at_.toNat else if y.kind = 2 then .move y.name y.to_ else .drop y.name
/-- A step that may be done. -/
def RStep.ok (y : RStep) (l : DK.Files) : Prop := (y.kind < 2 → 0 ≤ y.at_ ∧ y.at_ ≤ (DK.get l y.name).size) ∧ 0 ≤ y.kind ∧ y.kind ≤ 3 ∧ y.s.size ≤ 1000000 ∧ (DK.get l y.name).size ≤ 1000000 ∧ l.length ≤ 100000

theorem over_eq (was s : ByteArray) (k : Nat) (hk : k ≤ was.size) : DK.over was k s = if k + s.size < was.size then (was.extract 0 k ++ s) ++ was.extract (k + s.size) was.size else was.extract 0 k ++ s := by
  unfold DK.over
  by_cases h : k + s.size < was.size
  · rw [if_pos h, Nat.min_eq_left (by omega)]
  · rw [if_neg h, Nat.min_eq_right (by omega)]
    apply WideShapes.bytes_inj
    simp [Lib.extract_data]

theorem ne_facts0 {a b : Int} (h : ¬ a = b) : (a == b) = false ∧ decide (a = b) = false := ⟨beq_eq_false_iff_ne.2 h, decide_eq_false h⟩

set_option maxRecDepth 100000 in
set_option maxHeartbeats 2000000 in
theorem ref_do {w : World} {v : Value} {l : DK.Files} (hv : FsV w v l) (y : RStep) (hok : y.ok l) :
    Calls Try.prog 51 #[v, .agg (rsCells y)] w fun e w' => ∃ v', e = .returned v' ∧ FsV w' v' (DK.doS l y.st) ∧ Ext w w' ∧ New w v' := by
  obtain ⟨kd, nm, tt, at', s⟩ := y
  obtain ⟨o1, o2, o3, o4, o5, o6⟩ := hok
  simp only at o1 o2 o3 o4 o5
  have x1 := (Ext.refl w).alloc (.cells #[.int .i64 kd, .string nm, .string tt, .int .i64 at', .string s] 75)
  have c0' := alloc_cell w #[.int .i64 kd, .string nm, .string tt, .int .i64 at', .string s] 75 0
  have c1' := alloc_cell w #[.int .i64 kd, .string nm, .string tt, .int .i64 at', .string s] 75 1
  have c2' := alloc_cell w #[.int .i64 kd, .string nm, .string tt, .int .i64 at', .string s] 75 2
  have c3' := alloc_cell w #[.int .i64 kd, .string nm, .string tt, .int .i64 at', .string s] 75 3
  have c4' := alloc_cell w #[.int .i64 kd, .string nm, .string tt, .int .i64 at', .string s] 75 4
  simp only [List.getElem?_toArray, List.getElem?_cons_zero, List.getElem?_cons_succ] at c0' c1' c2' c3' c4'
  have hby := ref_bytes (hv.ext x1) nm
  have HV1 := Lib.hid (hv.ext x1)
  have HX1 := Lib.hid x1
  have hdo : DK.doS l (RStep.st ⟨kd, nm, tt, at', s⟩) = if kd = 0 then DK.put l nm (DK.over (DK.get l nm) at'.toNat s) else if kd = 1 then DK.put l nm ((DK.get l nm).extract 0 at'.toNat) else if kd = 2 then DK.put (DK.without l nm) tt (DK.get l nm) else DK.without l nm := by
    unfold RStep.st
    simp only
    split
    · rfl
    · split
      · rfl
      · split <;> rfl
  rw [hdo]
  clear hdo
  have hlw := DK.without_length l nm
  have HDOW := Lib.hid (fun (W : World) (u : Value) (h : FsV W u l) (z : ByteArray) => ref_with h nm z (by omega))
  have HWITH := Lib.hid (fun (W : World) (u : Value) (h : FsV W u (DK.without l nm)) (z : ByteArray) => ref_with h tt z (by omega))
  have HWO := Lib.hid (fun (W : World) (u : Value) (h : FsV W u l) => ref_without h nm)
  obtain ⟨p, c, hvv, _, _⟩ := hv
  subst hvv
  generalize DK.get l nm = was at *
  have HBY := Lib.hid hby
  have HC0 := Lib.hid c0'
  have HC1 := Lib.hid c1'
  have HC2 := Lib.hid c2'
  have HC3 := Lib.hid c3'
  have HC4 := Lib.hid c4'
  obtain ⟨m, hm⟩ : ∃ m, l.length = m := ⟨_, rfl⟩
  rw [hm] at o6 HV1 HBY hlw ⊢
  unfold rsCells
  simp only
  clear hby c0' c1' c2' c3' c4' x1 hm
  by_cases k0 : kd = 0
  · subst k0
    rw [if_pos rfl]
    obtain ⟨a0, a1⟩ := o1 (by omega)
    obtain ⟨at2, rfl⟩ : ∃ at2 : Nat, at' = (at2 : Int) := ⟨at'.toNat, by omega⟩
    have a2 : at2 ≤ was.size := by omega
    rw [Int.toNat_natCast, over_eq was s at2 a2]
    have HDW := HDOW
    clear HDOW HWITH HWO
    have q0 := HC1.out
    by_cases hsh : at2 + s.size < was.size
    · rw [if_pos hsh]
      have t1 : decide (((at2 + s.size : Nat) : Int) < (was.size : Int)) = true := decide_eq_true (by omega)
      go_enter Try.func51, Try.ntmps51
      go_wp2_with fail
      refine HBY.out.mono ?_
      rintro e w' ⟨rfl, rfl⟩
      have q1 := HC0.out
      have p3 := cell_ext HC3.out
      have p4 := cell_ext HC4.out
      have b1 : (was.extract 0 at2).size = at2 := by rw [ByteArray.size_extract]; omega
      have b2 : (was.extract 0 at2 ++ s).size = at2 + s.size := by rw [ByteArray.size_append, b1]
      go_wp2
      refine wp_region_quiet_ext (by kernel_rfl) (by kernel_rfl) ?_
      repeat (go_big_quiet_step (first | fail))
      refine wpQuiet_nil ?_
      intro w5 g5
      have r1 := g5.cell HC1.out
      clear p3 p4 q0 q1
      go_wp2_with fail
      refine (HDW.out _ _ (HV1.out.ext g5) _).mono ?_
      rintro e w6 ⟨v6, rfl, hv6, g6, hn6⟩
      have HV6 := Lib.hid hv6
      have HN6 := Lib.hid (hn6.from_ (HX1.out.trans g5))
      obtain ⟨q6, c6, rfl, _, _⟩ := hv6
      have HG6 := Lib.hid ((HX1.out.trans g5).trans g6)
      clear hn6
      generalize (DK.put l nm ((was.extract 0 at2 ++ s) ++ was.extract (at2 + s.size) was.size)).length = m6 at *
      clear g6
      go_wp2
      go_ret
      exact ⟨_, rfl, HV6.out, HG6.out, HN6.out⟩
    · rw [if_neg hsh]
      have t1 : decide (((at2 + s.size : Nat) : Int) < (was.size : Int)) = false := decide_eq_false (by omega)
      go_enter Try.func51, Try.ntmps51
      go_wp2_with fail
      refine HBY.out.mono ?_
      rintro e w' ⟨rfl, rfl⟩
      have q1 := HC0.out
      have p3 := cell_ext HC3.out
      have p4 := cell_ext HC4.out
      have b1 : (was.extract 0 at2).size = at2 := by rw [ByteArray.size_extract]; omega
      have b2 : (was.extract 0 at2 ++ s).size = at2 + s.size := by rw [ByteArray.size_append, b1]
      go_wp2
      refine wp_region_quiet_ext (by kernel_rfl) (by kernel_rfl) ?_
      repeat (go_big_quiet_step (first | fail))
      refine wpQuiet_nil ?_
      intro w5 g5
      have r1 := g5.cell HC1.out
      clear p3 p4 q0 q1
      go_wp2_with fail
      refine (HDW.out _ _ (HV1.out.ext g5) _).mono ?_
      rintro e w6 ⟨v6, rfl, hv6, g6, hn6⟩
      have HV6 := Lib.hid hv6
      have HN6 := Lib.hid (hn6.from_ (HX1.out.trans g5))
      obtain ⟨q6, c6, rfl, _, _⟩ := hv6
      have HG6 := Lib.hid ((HX1.out.trans g5).trans g6)
      clear hn6
      generalize (DK.put l nm (was.extract 0 at2 ++ s)).length = m6 at *
      clear g6
      go_wp2
      go_ret
      exact ⟨_, rfl, HV6.out, HG6.out, HN6.out⟩
  · by_cases k1 : kd = 1
    · subst k1
      rw [if_neg (by omega), if_pos rfl]
      obtain ⟨a0, a1⟩ := o1 (by omega)
      obtain ⟨at2, rfl⟩ : ∃ at2 : Nat, at' = (at2 : Int) := ⟨at'.toNat, by omega⟩
      have a2 : at2 ≤ was.size := by omega
      rw [Int.toNat_natCast]
      have HDW := HDOW
      have q0 := HC1.out
      clear HDOW HWITH HWO
      go_enter Try.func51, Try.ntmps51
      go_wp2_with fail
      refine HBY.out.mono ?_
      rintro e w' ⟨rfl, rfl⟩
      have q1 := HC0.out
      have q3 := HC3.out
      go_wp2
      refine wp_region_noPanic ?_
      go_region_held3 (fun w' => w'.cell? ⟨w.heap.size, 1, none⟩ = some (.string nm) ∧ w'.cell? ⟨w.heap.size, 3, none⟩ = some (.int .i64 (at2 : Int))) (first | go_keep | exact ⟨z1, z3⟩) (first
        | (go_at_call 60; refine (HDW.out _ _ (HV1.out.ext (by repeat (first | exact Ext.refl _ | refine Ext.drew ?_ | refine Ext.drewN ?_ _))) _).mono ?_; rintro e w6 ⟨v6, rfl, hv6, g6, hn6⟩; have Hv6 := Lib.hid hv6; have HNW := Lib.hid (New.from_ (w := w.alloc (.cells #[.int .i64 1, .string nm, .string tt, .int .i64 (at2 : Int), .string s] 75)) hn6 (by repeat (first | exact Ext.refl _ | refine Ext.drew ?_ | refine Ext.drewN ?_ _))); clear hn6; have HG := Lib.hid (Ext.trans (by repeat (first | exact Ext.refl _ | refine Ext.drew ?_ | refine Ext.drewN ?_ _)) g6 : Ext (w.alloc (.cells #[.int .i64 1, .string nm, .string tt, .int .i64 (at2 : Int), .string s] 75)) w6); have z1 := HG.out.cell HC1.out; have z2 := HG.out.cell HC2.out; have z3 := HG.out.cell HC3.out; obtain ⟨q6, c6, rfl, _, _⟩ := hv6; clear g6))
      all_goals
        refine NoPanic.normal ?_
        generalize (DK.put l nm (was.extract 0 at2)).length = m6 at *
        go_wp2
        go_ret
        exact ⟨_, rfl, Hv6.out, HX1.out.trans HG.out, HNW.out.from_ HX1.out⟩
    · rw [if_neg k0, if_neg k1]
      obtain ⟨k0a, k0b⟩ := ne_facts0 k0
      obtain ⟨k1a, k1b⟩ := ne_facts0 k1
      by_cases k2 : kd = 2
      · subst k2
        rw [if_pos rfl]
        have q0 := HC1.out
        clear HDOW
        go_enter Try.func51, Try.ntmps51
        go_wp2_with fail
        refine HBY.out.mono ?_
        rintro e w' ⟨rfl, rfl⟩
        have q1 := HC0.out
        have q3 := HC2.out
        go_wp2
        refine wp_region_noPanic ?_
        go_region_held3 (fun w' => w'.cell? ⟨w.heap.size, 1, none⟩ = some (.string nm) ∧ w'.cell? ⟨w.heap.size, 2, none⟩ = some (.string tt)) (first | go_keep | exact ⟨z1, z2⟩) (first
          | (go_at_call 61; refine (HWO.out _ _ (HV1.out.ext (by repeat (first | exact Ext.refl _ | refine Ext.drew ?_ | refine Ext.drewN ?_ _)))).mono ?_; rintro e w5 ⟨v5, rfl, hv5, g6, _⟩; have Hv5 := Lib.hid hv5; have HG := Lib.hid (Ext.trans (by repeat (first | exact Ext.refl _ | refine Ext.drew ?_ | refine Ext.drewN ?_ _)) g6 : Ext (w.alloc (.cells #[.int .i64 2, .string nm, .string tt, .int .i64 at', .string s] 75)) w5); have z1 := HG.out.cell HC1.out; have z2 := HG.out.cell HC2.out; have z3 := HG.out.cell HC3.out; obtain ⟨q6, c6, rfl, _, _⟩ := hv5; clear g6)
          | (go_at_call 60; refine (HWITH.out _ _ Hv5.out _).mono ?_; rintro e w6 ⟨v6, rfl, hv6, g6, hn6⟩; have Hv6 := Lib.hid hv6; have HNW := Lib.hid (New.from_ hn6 HG.out); clear hn6; have HG := Lib.hid (Ext.trans HG.out g6 : Ext (w.alloc (.cells #[.int .i64 2, .string nm, .string tt, .int .i64 at', .string s] 75)) w6); have z1 := HG.out.cell HC1.out; have z2 := HG.out.cell HC2.out; have z3 := HG.out.cell HC3.out; obtain ⟨q6, c6, rfl, _, _⟩ := hv6; clear g6))
        all_goals
          refine NoPanic.normal ?_
          generalize (DK.put (DK.without l nm) tt was).length = m6 at *
          go_wp2
          go_ret
          exact ⟨_, rfl, Hv6.out, HX1.out.trans HG.out, HNW.out.from_ HX1.out⟩
      · rw [if_neg k2]
        obtain ⟨k2a, k2b⟩ := ne_facts0 k2
        have q0 := HC1.out
        clear HDOW HWITH
        go_enter Try.func51, Try.ntmps51
        go_wp2_with fail
        refine HBY.out.mono ?_
        rintro e w' ⟨rfl, rfl⟩
        have q1 := HC0.out
        go_wp2_with fail
        refine (HWO.out _ _ HV1.out).mono ?_
        rintro e w6 ⟨v6, rfl, hv6, g6, hn6⟩
        have HV6 := Lib.hid hv6
        have HN6 := Lib.hid (hn6.from_ HX1.out)
        obtain ⟨q6, c6, rfl, _, _⟩ := hv6
        have HG6 := Lib.hid (HX1.out.trans g6)
        clear hn6
        generalize (DK.without l nm).length = m6 at *
        clear g6
        go_wp2
        go_ret
        exact ⟨_, rfl, HV6.out, HG6.out, HN6.out⟩
end Go.Proofs.Ytfegfbhchdfibaa
