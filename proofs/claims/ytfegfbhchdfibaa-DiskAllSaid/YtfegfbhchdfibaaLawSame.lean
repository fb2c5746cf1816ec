/- A disk tells what the document's disk has. -/
import Derived.Test.YtfegfbhchdfibaaLawActs
import Derived.Test.YtfegfbhchdfibaaDiskNamesAt
namespace Go.Proofs.Ytfegfbhchdfibaa
open Go.RowKit

theorem one_heap (w : World) (cs : Array Value) (t : TypeId) : (w.alloc (.cells cs t)).heap[w.heap.size]? = some (.cells cs t) ∧ Ext w (w.alloc (.cells cs t)) := ⟨heap_alloc_new w _, (Ext.refl w).alloc _⟩
theorem DiskAt.riseN {w : World} {S : Nat → Prop} {B : Nat} {d : DK.D} (h : DiskAt w S B d) : DK.rise d.now := by
  obtain ⟨_, _, _, hi⟩ := h
  exact FilesAt.rise hi.now
/-- A row of names, as the disk tells them. -/
def NamesAt (w : World) (p : Option Addr) (m : Nat) (l : DK.Files) : Prop := m = 0 ∨ ∃ g, p = some ⟨g, 0, none⟩ ∧ ∀ i (h : i < l.length), w.cell? ⟨g, i, none⟩ = some (.string l[i].1)
theorem NamesAt.ext {w w' : World} {p : Option Addr} {m : Nat} {l : DK.Files} (h : NamesAt w p m l) (he : Ext w w') : NamesAt w' p m l := h.imp id fun ⟨g, e, k⟩ => ⟨g, e, fun i hi => he.cell (k i hi)⟩
theorem names_at {w : World} {base : Nat} {v : Value} {m : Nat} {l : DK.Files} (h : w.ownsRow base 9 1 v m (l.map fun p => Value.string p.1)) (hm : l.length = m) : ∃ p c, v = .slice p m c ∧ NamesAt w p m l := by
  rcases h.2 with ⟨rfl, h0⟩ | ⟨g, cap, cur, rfl, hb, hg, hn, hc, hs, hx⟩
  · subst h0
    exact ⟨none, 0, rfl, .inl rfl⟩
  · refine ⟨_, cap, rfl, .inr ⟨g, rfl, fun i hi => ?_⟩⟩
    have k1 := h.cellAt i (by omega)
    rw [k1, List.getElem?_map, List.getElem?_eq_getElem hi]
    rfl
theorem fs_one (w : World) (n s : ByteArray) : FsV (w.alloc (.cells #[.string n, .string s] 83)) (.slice (some ⟨w.heap.size, 0, none⟩) 1 1) [(n, s)] :=
  ⟨_, 1, rfl, by simp, .inr ⟨_, 0, rfl, fun i hi => by
    obtain rfl : i = 0 := by simpa using hi
    exact ⟨alloc_cell w _ _ 0, alloc_cell w _ _ 1⟩⟩⟩

set_option maxRecDepth 100000 in
set_option maxHeartbeats 4000000 in
theorem law_same {w0 w : World} {S : Nat → Prop} {B : Nat} {d : DK.D} {T : List RStep} {fuse : Int} {sv nv tv : Value} {N : Nat} (h : Both w0 w S B d T fuse sv nv tv) (hg : DK.Good N d) (hN : N ≤ 30000) :
    Calls Try.prog 23 #[.pointer (some ⟨B, 0, none⟩), .agg (rdCells d.room sv nv tv d.dead fuse)] w fun e w' => e = .returned (.bool true) ∧ Ext w w' := by
  have HB := Lib.hid h
  have HGD := Lib.hid hg
  have hnw := hg.nowS.mono (M := 1073741824) (by omega)
  have HSM := Lib.hid hnw
  have HRI := Lib.hid h.held.disk.riseN
  have hroom := hg.room
  obtain ⟨p1, c1, rfl⟩ := h.fs.slice
  obtain ⟨p2, c2, rfl⟩ := h.fn.slice
  obtain ⟨p3, c3, rfl⟩ := h.st.slice
  have HFN := Lib.hid h.fn
  unfold rdCells
  obtain ⟨m1, hm1⟩ : ∃ m, d.safe.length = m := ⟨_, rfl⟩
  obtain ⟨m2, hm2⟩ : ∃ m, d.now.length = m := ⟨_, rfl⟩
  obtain ⟨m3, hm3⟩ : ∃ m, T.length = m := ⟨_, rfl⟩
  obtain ⟨room, hrm⟩ : ∃ r, d.room = r := ⟨_, rfl⟩
  have hm2b : m2 ≤ 30000 := by have := hg.nowS.1; omega
  have HRO := Lib.hid hrm
  have HM2 := Lib.hid hm2
  rw [hm2] at HFN
  rw [hm1, hm2, hm3, hrm] at ⊢
  rw [hrm] at hroom
  have HTL : Hid (d.todo.length = m3) := Lib.hid (h.rel.len.trans hm3)
  obtain ⟨g1, hx⟩ := one_heap w #[.int .i64 room, .slice p1 m1 c1, .slice p2 m2 c2, .slice p3 m3 c3, .bool d.dead, .int .i64 fuse] 44
  have HX := Lib.hid hx
  have HNA := Lib.hid (disk_names (h.held.disk.ext hx) (by have := hnw.1; omega))
  clear h hg hnw hm1 hm2 hm3 hrm hx
  cases hdd : d.dead with
  | true =>
    have hnm : DK.namesV d = [] := by unfold DK.namesV; rw [if_pos hdd]
    rw [hnm] at HNA
    have HDD := Lib.hid hdd
    rw [hdd] at g1 HX HNA
    clear hdd hnm
    go_enter Try.func23, Try.ntmps23
    go_upto_region 1 with fail
    generalize hW : w.alloc _ = W at *
    generalize hXw : w.heap.size = X at g1 ⊢
    have HG1 := Lib.hid g1
    clear hW hXw g1
    go_wp2_with fail
    refine HNA.out.mono ?_
    rintro e w1 ⟨v, rfl, hrow, hx1⟩
    have HX1 := Lib.hid (HX.out.trans hx1)
    obtain ⟨pn, cn, rfl⟩ := row_slice hrow
    have hgx := (hx1.block (Array.getElem?_eq_some_iff.1 HG1.out).1).trans HG1.out
    obtain ⟨a0, a1, a2, a3, a4, a5⟩ := box6 hgx
    have q3 := cell_ext a3
    have q4 := cell_ext a4
    have HD := Lib.hid (fun p : ExtOf w1 => disk_dead (HB.out.held.disk.ext (HX1.out.trans p.ext)))
    have HPE := Lib.hid (fun p : ExtOf w1 => disk_pending (HB.out.held.disk.ext (HX1.out.trans p.ext)))
    rw [HDD.out] at HD
    rw [HTL.out] at HPE
    clear hrow hx1 hgx
    go_wp2
    refine wp_region_quiet_ext (by kernel_rfl) (by kernel_rfl) ?_
    repeat (go_big_quiet_step (first | (go_at_call 22; exact calls_ext_same (HD.out _)) | (go_at_call 19; exact calls_ext_same (HPE.out _))))
    refine wpQuiet_nil ?_
    intro w5 g5
    have k4 := g5.cell a4
    have HX5 := Lib.hid (HX1.out.trans g5)
    have hrd := disk_read (HB.out.held.disk.ext HX5.out) ⟨#[97]⟩ (by show 1 ≤ _; omega)
    have hre : DK.read d ⟨#[97]⟩ = (ByteArray.empty, false) := by unfold DK.read; rw [if_pos HDD.out]
    rw [hre] at hrd
    have HRD := Lib.hid hrd
    have hus : DK.used d = 0 := by unfold DK.used; rw [if_pos HDD.out]
    have hfr : DK.free d = 0 := by unfold DK.free; rw [if_pos HDD.out]
    have HUS := Lib.hid (fun (W' : World) (he : Ext w W') => disk_used (HB.out.held.disk.ext he) HSM.out)
    have HFR := Lib.hid (fun (W' : World) (he : Ext w W') => disk_free (HB.out.held.disk.ext he) HSM.out (by rw [HRO.out]; exact hroom))
    rw [hus] at HUS
    rw [hfr] at HFR
    clear hrd hre hus hfr g5 a0 a1 a2 a3 a4 a5 q3 q4
    go_wp2_with fail
    refine HRD.out.mono ?_
    rintro e w6 ⟨rfl, g6⟩
    have HX6 := Lib.hid (HX5.out.trans g6)
    clear g6
    go_wp2_with fail
    refine (HUS.out _ HX6.out).mono ?_
    rintro e w7 ⟨rfl, g7⟩
    have HX7 := Lib.hid (HX6.out.trans g7)
    clear g7
    go_wp2_with fail
    refine (HFR.out _ HX7.out).mono ?_
    rintro e w8 ⟨rfl, g8⟩
    have HX8 := Lib.hid (HX7.out.trans g8)
    clear g8
    go_wp2
    go_ret
    exact ⟨rfl, HX8.out⟩
  | false =>
    have hnm : DK.namesV d = d.now.map fun p => Value.string p.1 := by unfold DK.namesV; rw [if_neg (by rw [hdd]; simp)]
    rw [hnm, List.length_map, HM2.out] at HNA
    have HDD := Lib.hid hdd
    rw [hdd] at g1 HX HNA
    have hus : DK.used d = (DK.blocks d.now : Int) := by unfold DK.used; rw [if_neg (by rw [hdd]; simp)]
    have hfr : DK.free d = room - (DK.blocks d.now : Int) := by unfold DK.free; rw [if_neg (by rw [hdd]; simp), HRO.out]
    have hzb : DK.blocks d.now ≤ 1073741824 := by
      have h1 := DK.sum_le 30000 d.now (fun p hp => ((HGD.out.nowS.mono hN).2 p hp).2)
      have h2 := (HGD.out.nowS.mono hN).1
      have h3 : d.now.length * (30000 + 1) ≤ 30000 * 30001 := Nat.mul_le_mul h2 (by omega)
      omega
    have HBL := Lib.hid (fun (W' : World) (he : Ext w W') => ref_blocks (HFN.out.ext he) (by omega))
    have HUS := Lib.hid (fun (W' : World) (he : Ext w W') => disk_used (HB.out.held.disk.ext he) HSM.out)
    have HFR := Lib.hid (fun (W' : World) (he : Ext w W') => disk_free (HB.out.held.disk.ext he) HSM.out (by rw [HRO.out]; exact hroom))
    rw [hus] at HUS
    rw [hfr] at HFR
    obtain ⟨z, hz⟩ : ∃ z, DK.blocks d.now = z := ⟨_, rfl⟩
    rw [hz] at HBL HUS HFR hzb
    have hw : IntKind.i64.wrap (room - (z : Int)) = room - (z : Int) := IntWalk.i64_in _ ⟨by omega, by omega⟩
    clear hdd hnm hus hfr hz
    go_enter Try.func23, Try.ntmps23
    go_upto_region 1 with fail
    generalize hW : w.alloc _ = W at *
    generalize hXw : w.heap.size = X at g1 ⊢
    have HG1 := Lib.hid g1
    clear hW hXw g1
    go_wp2_with fail
    refine HNA.out.mono ?_
    rintro e w1 ⟨v, rfl, hrow, hx1⟩
    have HX1 := Lib.hid (HX.out.trans hx1)
    obtain ⟨pn, cn, rfl, hna⟩ := names_at hrow HM2.out
    have HNM := Lib.hid hna
    have hgx := (hx1.block (Array.getElem?_eq_some_iff.1 HG1.out).1).trans HG1.out
    have HGX := Lib.hid hgx
    obtain ⟨a0, a1, a2, a3, a4, a5⟩ := box6 hgx
    have q3 := cell_ext a3
    have q4 := cell_ext a4
    have HD := Lib.hid (fun p : ExtOf w1 => disk_dead (HB.out.held.disk.ext (HX1.out.trans p.ext)))
    have HPE := Lib.hid (fun p : ExtOf w1 => disk_pending (HB.out.held.disk.ext (HX1.out.trans p.ext)))
    rw [HDD.out] at HD
    rw [HTL.out] at HPE
    clear hrow hx1 hgx hna
    go_wp2
    refine wp_region_quiet_ext (by kernel_rfl) (by kernel_rfl) ?_
    repeat (go_big_quiet_step (first | (go_at_call 22; exact calls_ext_same (HD.out _)) | (go_at_call 19; exact calls_ext_same (HPE.out _))))
    refine wpQuiet_nil ?_
    intro w5 g5
    have k4 := g5.cell a4
    have k0 := cell_ext (g5.cell a0)
    have k2 := cell_ext (g5.cell a2)
    have HX5 := Lib.hid (HX1.out.trans g5)
    have HB5 := Lib.hid (fun p : ExtOf w5 => HBL.out p.to (HX5.out.trans p.ext))
    have HU5 := Lib.hid (fun p : ExtOf w5 => HUS.out p.to (HX5.out.trans p.ext))
    have HF5 := Lib.hid (fun p : ExtOf w5 => HFR.out p.to (HX5.out.trans p.ext))
    have HGX5 := Lib.hid ((g5.block (Array.getElem?_eq_some_iff.1 HGX.out).1).trans HGX.out)
    have HNM5 := Lib.hid (HNM.out.ext g5)
    clear a0 a1 a2 a3 a4 a5 q3 q4 g5
    go_wp2
    refine wp_region_quiet_ext (by kernel_rfl) (by kernel_rfl) ?_
    repeat (go_big_quiet_step (first | (go_at_call 21; exact calls_ext (HU5.out _)) | (go_at_call 42; exact calls_ext (HF5.out _)) | (go_at_call 43; exact calls_ext (HB5.out _))))
    refine wpQuiet_nil ?_
    intro w7 g7
    have HX7 := Lib.hid (HX5.out.trans g7)
    have HGX7 := Lib.hid ((g7.block (Array.getElem?_eq_some_iff.1 HGX5.out).1).trans HGX5.out)
    have HNM7 := Lib.hid (HNM5.out.ext g7)
    clear k0 k2 k4 g7 hw
    go_wp2
    go_loopw [8, 9, 10] (fun iv _ _ W' => ∃ k : Nat, k ≤ m2 ∧ iv = .int .i64 k ∧ Hid (Ext w7 W')) (fun iv _ _ _ => m2 - (intOf iv).toNat)
    case atStart => exact ⟨0, by omega, rfl, Lib.hid (Ext.refl _)⟩
    case round =>
      obtain ⟨k, hk, rfl, HE⟩ := hrel
      by_cases hlt : k < m2
      · have hkl : k < d.now.length := by rw [HM2.out]; exact hlt
        obtain ⟨b, o, rfl, hs⟩ : ∃ b o, p2 = some ⟨b, o, none⟩ ∧ FsAt w b o d.now := by
          obtain ⟨p', c', he, _, h3⟩ := HFN.out
          injection he with e1 e2 e3
          subst e1
          rcases h3 with h3 | ⟨b, o, hp, hs⟩
          · omega
          · exact ⟨b, o, hp, hs⟩
        obtain ⟨g, rfl, hnm⟩ : ∃ g, pn = some ⟨g, 0, none⟩ ∧ ∀ i (h : i < d.now.length), w7.cell? ⟨g, i, none⟩ = some (.string d.now[i].1) := by
          rcases HNM7.out with h | h
          · omega
          · exact h
        have hxr := HX7.out.trans HE.out
        have q1 := hxr.cell (hs k hkl).1
        have q2 := hxr.cell (hs k hkl).2
        have q3 := HE.out.cell (hnm k hkl)
        obtain ⟨_, _, a2, _, _, _⟩ := box6 ((HE.out.block (Array.getElem?_eq_some_iff.1 HGX7.out).1).trans HGX7.out)
        obtain ⟨hg1, hg2⟩ := DK.get_mem HRI.out (List.getElem_mem hkl)
        have hsz := (HSM.out.2 _ (List.getElem_mem hkl))
        have hrd := disk_read (HB.out.held.disk.ext hxr) d.now[k].1 (by omega)
        have hre : DK.read d d.now[k].1 = (d.now[k].2, true) := by unfold DK.read; rw [if_neg (by rw [HDD.out]; simp), hg1, hg2]
        rw [hre] at hrd
        generalize d.now[k] = x at *
        obtain ⟨a, s⟩ := x
        simp only at q1 q2 q3 hsz hrd
        have HRD := Lib.hid hrd
        have i1 : (0 : Int) ≤ (k : Int) := by omega
        have i2 : (k : Int) < (m2 : Int) := by omega
        clear hs hnm hg1 hg2 hrd hre hxr
        go_wp2_with fail
        refine HRD.out.mono ?_
        rintro e w8 ⟨rfl, g8⟩
        have r1 := g8.cell q1
        have r2 := g8.cell q2
        have r3 := g8.cell q3
        have x2 := g8.cell a2
        have HG8 := Lib.hid (HE.out.trans g8)
        have HR1 := Lib.hid r1
        have HR2 := Lib.hid r2
        have HR3 := Lib.hid r3
        have HXX2 := Lib.hid x2
        have hbz : DK.blocks [(a, s)] = DK.blk s.size := by unfold DK.blocks; simp
        have hbb : DK.blk s.size ≤ 1073741825 := DK.blk_le hsz.2
        have HBO := Lib.hid (fun (W' : World) (he : Ext (w8.alloc (.cells #[.string a, .string s] 83)) W') => ref_blocks ((fs_one w8 a s).ext he) (by rw [hbz]; omega))
        have HBD := Lib.hid (fun (W' : World) => disk_blk s.size (by omega) W')
        rw [hbz] at HBO
        generalize DK.blk s.size = bz at *
        clear q1 q2 q3 a2 g8 hbz
        go_wp2
        refine wp_region_noPanic ?_
        go_region_held3 (fun w' => w'.cell? ⟨X, 2, none⟩ = some (.slice (some ⟨b, o, none⟩) m2 c2) ∧ w'.cell? ⟨b, o + k * 2, none⟩ = some (.string a) ∧ w'.cell? ⟨b, o + k * 2 + 1, none⟩ = some (.string s)) (first | go_keep | exact ⟨y2, y0, y1⟩) (first
          | (go_at_call 44; refine (HBD.out _).mono ?_; rintro e w' ⟨rfl, rfl⟩)
          | (go_at_call 43; refine (HBO.out _ (by first | exact Ext.refl _ | exact (Ext.refl _).drew)).mono ?_; rintro e w9 ⟨rfl, g9⟩; have HG9 : Hid (Ext w8 w9) := Lib.hid (Ext.trans (by first | exact (Ext.refl w8).alloc _ | exact ((Ext.refl w8).alloc _).drew) g9); have y2 := HG9.out.cell HXX2.out; have y0 := HG9.out.cell HR1.out; have y1 := HG9.out.cell HR2.out; clear g9))
        all_goals
          refine NoPanic.normal ?_
          clear r1 r2 r3 x2 y0 y1 y2
          have y0 := cell_ext (HG9.out.cell HR1.out)
          have y1 := cell_ext (HG9.out.cell HR2.out)
          have y3 := cell_ext (HG9.out.cell HR3.out)
          have y2 := cell_ext (HG9.out.cell HXX2.out)
          go_wp2
          refine wp_region_quiet_ext (by kernel_rfl) (by kernel_rfl) ?_
          repeat (go_big_quiet_step (first | fail))
          refine wpQuiet_nil ?_
          intro w10 g10
          have HE10 := Lib.hid ((HG8.out.trans HG9.out).trans g10)
          clear y0 y1 y2 y3 g10
          go_wp2
          go_roundw
          case rel => exact ⟨k + 1, by omega, by go_num, HE10⟩
          case measure => simp [intOf]; omega
      · obtain rfl : k = m2 := by omega
        go_wp2
        go_ret
        exact ⟨rfl, HX7.out.trans HE.out⟩
end Go.Proofs.Ytfegfbhchdfibaa
