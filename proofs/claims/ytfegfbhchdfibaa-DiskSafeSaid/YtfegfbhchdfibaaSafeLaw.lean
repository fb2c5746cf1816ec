/- The walk of DiskSafe. PRINTED BY mk_saferound.py. -/
import Derived.Test.YtfegfbhchdfibaaSafeTurn
import Derived.Test.YtfegfbhchdfibaaActsGreat
import Derived.Test.YtfegfbhchdfibaaDiskAwake
namespace Go.Proofs.Ytfegfbhchdfibaa
open Go.RowKit

theorem ne_facts {a b : Int} (h : ¬ a = b) : (a == b) = false ∧ decide (a = b) = false := ⟨beq_eq_false_iff_ne.2 h, decide_eq_false h⟩
theorem DiskAt.riseNow {w : World} {S : Nat → Prop} {B : Nat} {d : DK.D} (h : DiskAt w S B d) : DK.rise d.now := by
  obtain ⟨_, _, _, hi⟩ := h
  exact FilesAt.rise hi.now
/-- Names of files that stay are names of files. -/
theorem DK.kept_size {d : DK.D} {l : DK.Files} {N : Nat} (h : DK.Kp d l) (hg : DK.Good N d) (hN : N ≤ 1073741824) : ∀ pr ∈ l, pr.1.size ≤ 2199023255552 := fun pr hp => by
  have h1 := (h pr hp).1
  have h2 := (hg.small 0 (Nat.zero_le _)).2 pr (List.mem_of_find?_eq_some h1)
  omega
theorem DiskAt.lt {w : World} {S : Nat → Prop} {B : Nat} {d : DK.D} (h : DiskAt w S B d) : ∀ k, S k → k < w.heap.size := by
  obtain ⟨_, _, _, hi⟩ := h
  exact hi.lt

set_option maxRecDepth 100000 in
set_option maxHeartbeats 4000000 in
theorem diskSafe_walk (p : Option Addr) (n c : Nat) (L : List ActV) (keep torn : Int) (w : World) (hx : ActsW w p n L) (hn : n ≤ maxLen) (hz : ∀ y ∈ L, y.Sized) :
    Calls Try.prog 3 #[.slice p n c, .int .i64 keep, .int .i64 torn] w fun e w' => e = .returned (.bool true) ∧ Ext w w' := by
  obtain ⟨i0, hi, hz0, hz1, hz2⟩ := info_parts info_str
  have Hi := Lib.hid hi
  clear hi
  have HGR := Lib.hid (great_acts p n c L w hx hn hz)
  obtain ⟨y1, y4⟩ := hx
  have HX : Hid (n = 0 ∨ ∃ b off, p = some ⟨b, off, none⟩ ∧ ActsAt w b off L) := y4
  have HLN := Lib.hid y1
  unfold maxLen at hn
  clear y1 y4 hz
  go_enter Try.func3, Try.ntmps3
  go_wp2_with fail
  refine HGR.out.mono ?_
  rintro e w1 ⟨r, rfl, h1, hsm⟩
  cases r with
  | true =>
    go_wp2_with fail
    refine (disk_awake _).mono ?_
    rintro e w2 ⟨rfl, h2⟩
    go_wp2
    go_ret
    exact ⟨rfl, h1.trans h2⟩
  | false =>
    have HS := Lib.hid (hsm rfl)
    have hn60 : n ≤ 60 := by have := HS.out.1; have := HLN.out; omega
    have H1 := Lib.hid h1
    have HN := Lib.hid (disk_new 100 (by omega) (by omega) w1)
    clear hsm h1 hn
    go_wp2_with fail
    refine HN.out.mono ?_
    rintro e w2 ⟨B, S0, rfl, hD, hx2, hS⟩
    have H2 : Hid (Held w1 w2 S0 B (DK.new 100)) := Lib.hid ⟨hD, hx2, hS⟩
    clear hD hx2 hS HN
    go_wp2
    go_loopw [8, 9, 10] (fun a b iv W => ∃ (i : Nat) (S : Nat → Prop) (d : DK.D) (l : DK.Files) (m : Nat) (pn pb : Option Addr) (cn cb : Nat), i ≤ n ∧ iv = .int .i64 i ∧ a = .slice pn m cn ∧ b = .slice pb m cb ∧ m ≤ 30000 ∧ Hid (R2 w1 W (.slice pn m cn) (.slice pb m cb) m m (l.map (·.1)) (l.map (·.2))) ∧ Hid (Out S (.slice pn m cn) (.slice pb m cb)) ∧ Hid (Held w1 W S B d) ∧ Hid (DK.Kp d l ∧ DK.Live d ∧ DK.Good (2 * i + load L i) d)) (fun _ _ i _ => n - (intOf i).toNat)
    case atStart => exact ⟨0, S0, _, [], 0, none, none, 0, 0, by omega, rfl, rfl, rfl, by omega, Lib.hid (R2.start H2.out.ext), Lib.hid ⟨fun g e => (by cases e), fun g e => (by cases e)⟩, H2, Lib.hid ⟨DK.Kp.nil _, ⟨rfl, rfl⟩, DK.new_good _ (by omega)⟩⟩
    case round =>
      clear H2
      obtain ⟨i, S, d, l, m, pn, pb, cn, cb, hi, rfl, rfl, rfl, hm, HR, HO, HHe, HP⟩ := hrel
      by_cases hlt : i < n
      · have hil : i < L.length := by rw [HLN.out]; exact hlt
        obtain ⟨b, off, rfl, hs⟩ : ∃ b off, p = some ⟨b, off, none⟩ ∧ ActsAt w b off L := by
          rcases HX.out with h | h
          · omega
          · exact h
        obtain ⟨z0, z1, z2, z3, z4, z5⟩ := (hs.ext (H1.out.trans HHe.out.ext)).cs hil
        have hld := load_next L i hil
        have hl1 := load_le L (i + 1) (by omega)
        have hl2 := HS.out.2
        generalize L[i] = y at *
        obtain ⟨kd, nm, tt, at', nn, s⟩ := y
        simp only at z0 z1 z2 z3 z4 z5 hld
        have HLD := Lib.hid hld
        rw [hld] at hl1
        obtain ⟨q, hq⟩ : ∃ q, load L i = q := ⟨_, rfl⟩
        rw [hq] at hld hl1
        obtain ⟨qq, hqq⟩ : ∃ qq, load L L.length = qq := ⟨_, rfl⟩
        rw [hqq] at hl1 hl2
        clear hs hld hqq
        go_upto_region 11 with fail
        have c0' := alloc_cell wr #[.int .i64 kd, .string nm, .string tt, .int .i64 at', .int .i64 nn, .string s] 29 0
        have c1' := alloc_cell wr #[.int .i64 kd, .string nm, .string tt, .int .i64 at', .int .i64 nn, .string s] 29 1
        have c2' := alloc_cell wr #[.int .i64 kd, .string nm, .string tt, .int .i64 at', .int .i64 nn, .string s] 29 2
        have c3' := alloc_cell wr #[.int .i64 kd, .string nm, .string tt, .int .i64 at', .int .i64 nn, .string s] 29 3
        have c5' := alloc_cell wr #[.int .i64 kd, .string nm, .string tt, .int .i64 at', .int .i64 nn, .string s] 29 5
        have hxA := (Ext.refl wr).alloc (.cells #[.int .i64 kd, .string nm, .string tt, .int .i64 at', .int .i64 nn, .string s] 29)
        have HHA := Lib.hid (HHe.out.more hxA)
        have HRA := Lib.hid (HR.out.more hxA)
        have HOA := HO
        have HXS : Hid (¬ S wr.heap.size) := Lib.hid fun h => by have := HHe.out.disk.lt _ h; omega
        generalize wr.alloc (.cells #[.int .i64 kd, .string nm, .string tt, .int .i64 at', .int .i64 nn, .string s] 29) = wA at *
        generalize wr.heap.size = X at *
        simp only [List.getElem?_toArray, List.getElem?_cons_zero, List.getElem?_cons_succ] at c0' c1' c2' c3' c5'
        have HX0 := Lib.hid c0'
        have HX1 := Lib.hid c1'
        have HX2 := Lib.hid c2'
        clear z0 z1 z2 z3 z4 z5 hxA HHe HR HO
        by_cases e0 : kd = 0
        · subst e0
          have HC := Lib.hid (disk_write HHA.out.disk HP.out.2.2 nm s at' (by omega))
          go_wp2_with fail
          refine HC.out.mono ?_
          rintro e w3 ⟨rfl, hl⟩
          obtain ⟨S3, h3, ht3, hg3⟩ := HHA.out.next hl
          have HH3 := Lib.hid h3
          have HR3 := Lib.hid (HRA.out.turn ht3 HOA.out h3.ext)
          have HO3 := Lib.hid (HRA.out.outGrew hg3 HOA.out)
          have y0 := ht3.cell (a := ⟨X, 0, none⟩) HXS.out HX0.out
          have y1 := ht3.cell (a := ⟨X, 1, none⟩) HXS.out HX1.out
          have y2 := ht3.cell (a := ⟨X, 2, none⟩) HXS.out HX2.out
          have Y0 := Lib.hid y0
          have Y1 := Lib.hid y1
          have Y2 := Lib.hid y2
          have HN3 : Hid (m = 0 ∨ ∃ b off, pn = some ⟨b, off, none⟩ ∧ StrsAt w3 b off (l.map (·.1))) := Lib.hid (row_texts HR3.out.n HR3.out.ln)
          have HB3 : Hid (m = 0 ∨ ∃ b off, pb = some ⟨b, off, none⟩ ∧ StrsAt w3 b off (l.map (·.2))) := Lib.hid (row_texts HR3.out.b HR3.out.lb)
          have HL3 : Hid (l.length = m) := Lib.hid (by have := HR3.out.ln; rwa [List.length_map] at this)
          clear hl h3 ht3 hg3 y0 y1 y2 c0' c1' c2' c3' c5'
          go_wp2
          go_loopw [15, 16, 17] (fun a b i W => ∃ (j k1 : Nat) (p1 p2 : Option Addr) (c1 c2 : Nat), j ≤ m ∧ i = .int .i64 j ∧ a = .slice p1 k1 c1 ∧ b = .slice p2 k1 c2 ∧ Hid (R2 w3 W (.slice p1 k1 c1) (.slice p2 k1 c2) k1 k1 ((DK.spared 0 nm tt (l.take j)).map (·.1)) ((DK.spared 0 nm tt (l.take j)).map (·.2)))) (fun _ _ i _ => m - (intOf i).toNat)
          case atStart => exact ⟨0, 0, none, none, 0, 0, by omega, rfl, rfl, rfl, Lib.hid (R2.start (Ext.refl _))⟩
          case round =>
            obtain ⟨j, k1, p1, p2, c1, c2, hj, rfl, rfl, rfl, HT⟩ := hrel
            refine safe_round X j k1 m 0 nm tt l pn pb p1 p2 cn cb c1 c2 hj (by omega) HL3 HN3 HB3 Y0.out Y1.out Y2.out HT _ _ _ _ _ _ _ _ _ _ _ _ _ _ _ _ _ _ _ _ _ _ _ _ _ _ _ _ _ _ _ _ _ _ _ _ _ _ _ _ _ _ _ _ _ _ _ _ _ _ _ _ _ _ _ _ _ _ _ _ _ _ _ _ _ _ _ _ _ _ _ _ _ _ _ _ _ _ _ _ _ _ _ _ _ _ _ _ _ _ _ _ _ _ _ _ _ _ _ _ _ _ _ _ _ _ _ _ _ _ _ _ _ _ _ _ _ _ _ _ _ _ _ _ _ _ _ _ _ _ _ _ _ _ _ _ _ _ _ _ _ _ _ _ _ _ _ _ _ _ _ _ _ _ _ _ _ _ _ _ _ _ _ _ _ ?_ ?_ _ (by rfl)
            · refine Lib.hid ?_
              intro hlt2 W k2 q1 q2 e1 e2 v97 v98 v99 v100 v101 v102 v103 v104 v105 v106 v107 v108 v109 v110 v111 v112 v113 v114 v115 v116 v117 v118 v119 v120 v121 v122 v123 v124 v125 v126 v127 v128 v129 v130 v131 v132 v133 v134 v135 v136 v137 hR
              refine ⟨⟨.slice q1 k2 e1, .slice q2 k2 e2, .int .i64 ((j + 1 : Nat) : Int), v97, v98, v99, v100, v101, v102, v103, v104, v105, v106, v107, v108, v109, v110, v111, v112, v113, v114, v115, v116, v117, v118, v119, v120, v121, v122, v123, v124, v125, v126, v127, v128, v129, v130, v131, v132, v133, v134, v135, v136, v137, ⟨j + 1, k2, q1, q2, e1, e2, by omega, rfl, rfl, rfl, Lib.hid hR⟩, rfl⟩, ?_⟩
              simp [intOf]; omega
            · refine Lib.hid ?_
              intro hjm v97 v98 v99 v100
              subst hjm
              have hts : l.take j = l := List.take_of_length_le (by rw [HL3.out]; exact Nat.le_refl _)
              have hR := HT.out
              rw [hts] at hR
              have HR9 := Lib.hid hR
              clear hR hts
              go_wp2
              go_roundw
              case rel => exact ⟨i + 1, S3, _, DK.spared 0 nm tt l, k1, p1, p2, c1, c2, by omega, by go_num, rfl, rfl, by
                  have h1 := HR9.out.ln
                  have h2 : (DK.spared 0 nm tt l).length ≤ l.length := List.length_filter_le _ _
                  rw [List.length_map] at h1
                  have h3 := HL3.out
                  omega, Lib.hid (HR9.out.base HH3.out.ext), Lib.hid (HR9.out.outNew HH3.out.disk.lt), Lib.hid (HH3.out.more HR9.out.ext), Lib.hid ⟨(DK.Safe.write HP.out.1 HP.out.2.1 nm s at' 0 tt).1, (DK.Safe.write HP.out.1 HP.out.2.1 nm s at' 0 tt).2, (HP.out.2.2.write nm s at' (by omega) (by omega)).mono (by rw [HLD.out]; omega)⟩⟩
              case measure => simp [intOf]; omega
        · obtain ⟨f0a, f0b⟩ := ne_facts e0
          by_cases e1 : kd = 1
          · subst e1
            have HC := Lib.hid (disk_cut HHA.out.disk HP.out.2.2 nm at' (by omega))
            go_wp2_with fail
            refine HC.out.mono ?_
            rintro e w3 ⟨rfl, hl⟩
            obtain ⟨S3, h3, ht3, hg3⟩ := HHA.out.next hl
            have HH3 := Lib.hid h3
            have HR3 := Lib.hid (HRA.out.turn ht3 HOA.out h3.ext)
            have HO3 := Lib.hid (HRA.out.outGrew hg3 HOA.out)
            have y0 := ht3.cell (a := ⟨X, 0, none⟩) HXS.out HX0.out
            have y1 := ht3.cell (a := ⟨X, 1, none⟩) HXS.out HX1.out
            have y2 := ht3.cell (a := ⟨X, 2, none⟩) HXS.out HX2.out
            have Y0 := Lib.hid y0
            have Y1 := Lib.hid y1
            have Y2 := Lib.hid y2
            have HN3 : Hid (m = 0 ∨ ∃ b off, pn = some ⟨b, off, none⟩ ∧ StrsAt w3 b off (l.map (·.1))) := Lib.hid (row_texts HR3.out.n HR3.out.ln)
            have HB3 : Hid (m = 0 ∨ ∃ b off, pb = some ⟨b, off, none⟩ ∧ StrsAt w3 b off (l.map (·.2))) := Lib.hid (row_texts HR3.out.b HR3.out.lb)
            have HL3 : Hid (l.length = m) := Lib.hid (by have := HR3.out.ln; rwa [List.length_map] at this)
            clear hl h3 ht3 hg3 y0 y1 y2 c0' c1' c2' c3' c5'
            go_wp2
            go_loopw [15, 16, 17] (fun a b i W => ∃ (j k1 : Nat) (p1 p2 : Option Addr) (c1 c2 : Nat), j ≤ m ∧ i = .int .i64 j ∧ a = .slice p1 k1 c1 ∧ b = .slice p2 k1 c2 ∧ Hid (R2 w3 W (.slice p1 k1 c1) (.slice p2 k1 c2) k1 k1 ((DK.spared 1 nm tt (l.take j)).map (·.1)) ((DK.spared 1 nm tt (l.take j)).map (·.2)))) (fun _ _ i _ => m - (intOf i).toNat)
            case atStart => exact ⟨0, 0, none, none, 0, 0, by omega, rfl, rfl, rfl, Lib.hid (R2.start (Ext.refl _))⟩
            case round =>
              obtain ⟨j, k1, p1, p2, c1, c2, hj, rfl, rfl, rfl, HT⟩ := hrel
              refine safe_round X j k1 m 1 nm tt l pn pb p1 p2 cn cb c1 c2 hj (by omega) HL3 HN3 HB3 Y0.out Y1.out Y2.out HT _ _ _ _ _ _ _ _ _ _ _ _ _ _ _ _ _ _ _ _ _ _ _ _ _ _ _ _ _ _ _ _ _ _ _ _ _ _ _ _ _ _ _ _ _ _ _ _ _ _ _ _ _ _ _ _ _ _ _ _ _ _ _ _ _ _ _ _ _ _ _ _ _ _ _ _ _ _ _ _ _ _ _ _ _ _ _ _ _ _ _ _ _ _ _ _ _ _ _ _ _ _ _ _ _ _ _ _ _ _ _ _ _ _ _ _ _ _ _ _ _ _ _ _ _ _ _ _ _ _ _ _ _ _ _ _ _ _ _ _ _ _ _ _ _ _ _ _ _ _ _ _ _ _ _ _ _ _ _ _ _ _ _ _ _ ?_ ?_ _ (by rfl)
              · refine Lib.hid ?_
                intro hlt2 W k2 q1 q2 e1 e2 v97 v98 v99 v100 v101 v102 v103 v104 v105 v106 v107 v108 v109 v110 v111 v112 v113 v114 v115 v116 v117 v118 v119 v120 v121 v122 v123 v124 v125 v126 v127 v128 v129 v130 v131 v132 v133 v134 v135 v136 v137 hR
                refine ⟨⟨.slice q1 k2 e1, .slice q2 k2 e2, .int .i64 ((j + 1 : Nat) : Int), v97, v98, v99, v100, v101, v102, v103, v104, v105, v106, v107, v108, v109, v110, v111, v112, v113, v114, v115, v116, v117, v118, v119, v120, v121, v122, v123, v124, v125, v126, v127, v128, v129, v130, v131, v132, v133, v134, v135, v136, v137, ⟨j + 1, k2, q1, q2, e1, e2, by omega, rfl, rfl, rfl, Lib.hid hR⟩, rfl⟩, ?_⟩
                simp [intOf]; omega
              · refine Lib.hid ?_
                intro hjm v97 v98 v99 v100
                subst hjm
                have hts : l.take j = l := List.take_of_length_le (by rw [HL3.out]; exact Nat.le_refl _)
                have hR := HT.out
                rw [hts] at hR
                have HR9 := Lib.hid hR
                clear hR hts
                go_wp2
                go_roundw
                case rel => exact ⟨i + 1, S3, _, DK.spared 1 nm tt l, k1, p1, p2, c1, c2, by omega, by go_num, rfl, rfl, by
                    have h1 := HR9.out.ln
                    have h2 : (DK.spared 1 nm tt l).length ≤ l.length := List.length_filter_le _ _
                    rw [List.length_map] at h1
                    have h3 := HL3.out
                    omega, Lib.hid (HR9.out.base HH3.out.ext), Lib.hid (HR9.out.outNew HH3.out.disk.lt), Lib.hid (HH3.out.more HR9.out.ext), Lib.hid ⟨(DK.Safe.cut HP.out.1 HP.out.2.1 nm at' 1 tt).1, (DK.Safe.cut HP.out.1 HP.out.2.1 nm at' 1 tt).2, (HP.out.2.2.cut nm at' (by omega)).mono (by rw [HLD.out]; omega)⟩⟩
                case measure => simp [intOf]; omega
          · obtain ⟨f1a, f1b⟩ := ne_facts e1
            by_cases e2 : kd = 2
            · subst e2
              have HC := Lib.hid (disk_move HHA.out.disk HP.out.2.2 nm tt (by omega))
              go_wp2_with fail
              refine HC.out.mono ?_
              rintro e w3 ⟨rfl, hl⟩
              obtain ⟨S3, h3, ht3, hg3⟩ := HHA.out.next hl
              have HH3 := Lib.hid h3
              have HR3 := Lib.hid (HRA.out.turn ht3 HOA.out h3.ext)
              have HO3 := Lib.hid (HRA.out.outGrew hg3 HOA.out)
              have y0 := ht3.cell (a := ⟨X, 0, none⟩) HXS.out HX0.out
              have y1 := ht3.cell (a := ⟨X, 1, none⟩) HXS.out HX1.out
              have y2 := ht3.cell (a := ⟨X, 2, none⟩) HXS.out HX2.out
              have Y0 := Lib.hid y0
              have Y1 := Lib.hid y1
              have Y2 := Lib.hid y2
              have HN3 : Hid (m = 0 ∨ ∃ b off, pn = some ⟨b, off, none⟩ ∧ StrsAt w3 b off (l.map (·.1))) := Lib.hid (row_texts HR3.out.n HR3.out.ln)
              have HB3 : Hid (m = 0 ∨ ∃ b off, pb = some ⟨b, off, none⟩ ∧ StrsAt w3 b off (l.map (·.2))) := Lib.hid (row_texts HR3.out.b HR3.out.lb)
              have HL3 : Hid (l.length = m) := Lib.hid (by have := HR3.out.ln; rwa [List.length_map] at this)
              clear hl h3 ht3 hg3 y0 y1 y2 c0' c1' c2' c3' c5'
              go_wp2
              go_loopw [15, 16, 17] (fun a b i W => ∃ (j k1 : Nat) (p1 p2 : Option Addr) (c1 c2 : Nat), j ≤ m ∧ i = .int .i64 j ∧ a = .slice p1 k1 c1 ∧ b = .slice p2 k1 c2 ∧ Hid (R2 w3 W (.slice p1 k1 c1) (.slice p2 k1 c2) k1 k1 ((DK.spared 2 nm tt (l.take j)).map (·.1)) ((DK.spared 2 nm tt (l.take j)).map (·.2)))) (fun _ _ i _ => m - (intOf i).toNat)
              case atStart => exact ⟨0, 0, none, none, 0, 0, by omega, rfl, rfl, rfl, Lib.hid (R2.start (Ext.refl _))⟩
              case round =>
                obtain ⟨j, k1, p1, p2, c1, c2, hj, rfl, rfl, rfl, HT⟩ := hrel
                refine safe_round X j k1 m 2 nm tt l pn pb p1 p2 cn cb c1 c2 hj (by omega) HL3 HN3 HB3 Y0.out Y1.out Y2.out HT _ _ _ _ _ _ _ _ _ _ _ _ _ _ _ _ _ _ _ _ _ _ _ _ _ _ _ _ _ _ _ _ _ _ _ _ _ _ _ _ _ _ _ _ _ _ _ _ _ _ _ _ _ _ _ _ _ _ _ _ _ _ _ _ _ _ _ _ _ _ _ _ _ _ _ _ _ _ _ _ _ _ _ _ _ _ _ _ _ _ _ _ _ _ _ _ _ _ _ _ _ _ _ _ _ _ _ _ _ _ _ _ _ _ _ _ _ _ _ _ _ _ _ _ _ _ _ _ _ _ _ _ _ _ _ _ _ _ _ _ _ _ _ _ _ _ _ _ _ _ _ _ _ _ _ _ _ _ _ _ _ _ _ _ _ ?_ ?_ _ (by rfl)
                · refine Lib.hid ?_
                  intro hlt2 W k2 q1 q2 e1 e2 v97 v98 v99 v100 v101 v102 v103 v104 v105 v106 v107 v108 v109 v110 v111 v112 v113 v114 v115 v116 v117 v118 v119 v120 v121 v122 v123 v124 v125 v126 v127 v128 v129 v130 v131 v132 v133 v134 v135 v136 v137 hR
                  refine ⟨⟨.slice q1 k2 e1, .slice q2 k2 e2, .int .i64 ((j + 1 : Nat) : Int), v97, v98, v99, v100, v101, v102, v103, v104, v105, v106, v107, v108, v109, v110, v111, v112, v113, v114, v115, v116, v117, v118, v119, v120, v121, v122, v123, v124, v125, v126, v127, v128, v129, v130, v131, v132, v133, v134, v135, v136, v137, ⟨j + 1, k2, q1, q2, e1, e2, by omega, rfl, rfl, rfl, Lib.hid hR⟩, rfl⟩, ?_⟩
                  simp [intOf]; omega
                · refine Lib.hid ?_
                  intro hjm v97 v98 v99 v100
                  subst hjm
                  have hts : l.take j = l := List.take_of_length_le (by rw [HL3.out]; exact Nat.le_refl _)
                  have hR := HT.out
                  rw [hts] at hR
                  have HR9 := Lib.hid hR
                  clear hR hts
                  go_wp2
                  go_roundw
                  case rel => exact ⟨i + 1, S3, _, DK.spared 2 nm tt l, k1, p1, p2, c1, c2, by omega, by go_num, rfl, rfl, by
                      have h1 := HR9.out.ln
                      have h2 : (DK.spared 2 nm tt l).length ≤ l.length := List.length_filter_le _ _
                      rw [List.length_map] at h1
                      have h3 := HL3.out
                      omega, Lib.hid (HR9.out.base HH3.out.ext), Lib.hid (HR9.out.outNew HH3.out.disk.lt), Lib.hid (HH3.out.more HR9.out.ext), Lib.hid ⟨(DK.Safe.move HP.out.1 HP.out.2.1 nm tt).1, (DK.Safe.move HP.out.1 HP.out.2.1 nm tt).2, (HP.out.2.2.move nm tt (by omega) (by omega)).mono (by rw [HLD.out]; omega)⟩⟩
                  case measure => simp [intOf]; omega
            · obtain ⟨f2a, f2b⟩ := ne_facts e2
              by_cases e3 : kd = 3
              · subst e3
                have HC := Lib.hid (disk_drop HHA.out.disk HP.out.2.2 nm (by omega))
                go_wp2_with fail
                refine HC.out.mono ?_
                rintro e w3 ⟨rfl, hl⟩
                obtain ⟨S3, h3, ht3, hg3⟩ := HHA.out.next hl
                have HH3 := Lib.hid h3
                have HR3 := Lib.hid (HRA.out.turn ht3 HOA.out h3.ext)
                have HO3 := Lib.hid (HRA.out.outGrew hg3 HOA.out)
                have y0 := ht3.cell (a := ⟨X, 0, none⟩) HXS.out HX0.out
                have y1 := ht3.cell (a := ⟨X, 1, none⟩) HXS.out HX1.out
                have y2 := ht3.cell (a := ⟨X, 2, none⟩) HXS.out HX2.out
                have Y0 := Lib.hid y0
                have Y1 := Lib.hid y1
                have Y2 := Lib.hid y2
                have HN3 : Hid (m = 0 ∨ ∃ b off, pn = some ⟨b, off, none⟩ ∧ StrsAt w3 b off (l.map (·.1))) := Lib.hid (row_texts HR3.out.n HR3.out.ln)
                have HB3 : Hid (m = 0 ∨ ∃ b off, pb = some ⟨b, off, none⟩ ∧ StrsAt w3 b off (l.map (·.2))) := Lib.hid (row_texts HR3.out.b HR3.out.lb)
                have HL3 : Hid (l.length = m) := Lib.hid (by have := HR3.out.ln; rwa [List.length_map] at this)
                clear hl h3 ht3 hg3 y0 y1 y2 c0' c1' c2' c3' c5'
                go_wp2
                go_loopw [15, 16, 17] (fun a b i W => ∃ (j k1 : Nat) (p1 p2 : Option Addr) (c1 c2 : Nat), j ≤ m ∧ i = .int .i64 j ∧ a = .slice p1 k1 c1 ∧ b = .slice p2 k1 c2 ∧ Hid (R2 w3 W (.slice p1 k1 c1) (.slice p2 k1 c2) k1 k1 ((DK.spared 3 nm tt (l.take j)).map (·.1)) ((DK.spared 3 nm tt (l.take j)).map (·.2)))) (fun _ _ i _ => m - (intOf i).toNat)
                case atStart => exact ⟨0, 0, none, none, 0, 0, by omega, rfl, rfl, rfl, Lib.hid (R2.start (Ext.refl _))⟩
                case round =>
                  obtain ⟨j, k1, p1, p2, c1, c2, hj, rfl, rfl, rfl, HT⟩ := hrel
                  refine safe_round X j k1 m 3 nm tt l pn pb p1 p2 cn cb c1 c2 hj (by omega) HL3 HN3 HB3 Y0.out Y1.out Y2.out HT _ _ _ _ _ _ _ _ _ _ _ _ _ _ _ _ _ _ _ _ _ _ _ _ _ _ _ _ _ _ _ _ _ _ _ _ _ _ _ _ _ _ _ _ _ _ _ _ _ _ _ _ _ _ _ _ _ _ _ _ _ _ _ _ _ _ _ _ _ _ _ _ _ _ _ _ _ _ _ _ _ _ _ _ _ _ _ _ _ _ _ _ _ _ _ _ _ _ _ _ _ _ _ _ _ _ _ _ _ _ _ _ _ _ _ _ _ _ _ _ _ _ _ _ _ _ _ _ _ _ _ _ _ _ _ _ _ _ _ _ _ _ _ _ _ _ _ _ _ _ _ _ _ _ _ _ _ _ _ _ _ _ _ _ _ ?_ ?_ _ (by rfl)
                  · refine Lib.hid ?_
                    intro hlt2 W k2 q1 q2 e1 e2 v97 v98 v99 v100 v101 v102 v103 v104 v105 v106 v107 v108 v109 v110 v111 v112 v113 v114 v115 v116 v117 v118 v119 v120 v121 v122 v123 v124 v125 v126 v127 v128 v129 v130 v131 v132 v133 v134 v135 v136 v137 hR
                    refine ⟨⟨.slice q1 k2 e1, .slice q2 k2 e2, .int .i64 ((j + 1 : Nat) : Int), v97, v98, v99, v100, v101, v102, v103, v104, v105, v106, v107, v108, v109, v110, v111, v112, v113, v114, v115, v116, v117, v118, v119, v120, v121, v122, v123, v124, v125, v126, v127, v128, v129, v130, v131, v132, v133, v134, v135, v136, v137, ⟨j + 1, k2, q1, q2, e1, e2, by omega, rfl, rfl, rfl, Lib.hid hR⟩, rfl⟩, ?_⟩
                    simp [intOf]; omega
                  · refine Lib.hid ?_
                    intro hjm v97 v98 v99 v100
                    subst hjm
                    have hts : l.take j = l := List.take_of_length_le (by rw [HL3.out]; exact Nat.le_refl _)
                    have hR := HT.out
                    rw [hts] at hR
                    have HR9 := Lib.hid hR
                    clear hR hts
                    go_wp2
                    go_roundw
                    case rel => exact ⟨i + 1, S3, _, DK.spared 3 nm tt l, k1, p1, p2, c1, c2, by omega, by go_num, rfl, rfl, by
                        have h1 := HR9.out.ln
                        have h2 : (DK.spared 3 nm tt l).length ≤ l.length := List.length_filter_le _ _
                        rw [List.length_map] at h1
                        have h3 := HL3.out
                        omega, Lib.hid (HR9.out.base HH3.out.ext), Lib.hid (HR9.out.outNew HH3.out.disk.lt), Lib.hid (HH3.out.more HR9.out.ext), Lib.hid ⟨(DK.Safe.drop HP.out.1 HP.out.2.1 nm 3 tt).1, (DK.Safe.drop HP.out.1 HP.out.2.1 nm 3 tt).2, (HP.out.2.2.drop nm (by omega)).mono (by rw [HLD.out]; omega)⟩⟩
                    case measure => simp [intOf]; omega
              · obtain ⟨f3a, f3b⟩ := ne_facts e3
                by_cases e4 : kd = 4
                · subst e4
                  have hsy := disk_sync HHA.out.disk (fun hf _ => by rw [HP.out.2.1.2] at hf; cases hf)
                  have hks := DK.Kp.sync HP.out.2.1 HHA.out.disk.riseNow
                  have hls := HP.out.2.1.syncL
                  have hgs := HP.out.2.2.syncD
                  have hcnt := HP.out.2.2.nowS.1
                  have hri := HHA.out.disk.riseNow
                  have hnz := HP.out.2.2.nowS.2
                  have hsync := HP.out.2.1.sync
                  rw [hsync] at hsy hks hls hgs
                  obtain ⟨d2, hd2⟩ : ∃ d2, ({ d with safe := d.now, todo := [] } : DK.D) = d2 := ⟨_, rfl⟩
                  have hnow : d2.now = d.now := by rw [← hd2]
                  rw [hd2] at hsy hks hls hgs
                  rw [← hnow] at hks hcnt hri hnz
                  have HKS := Lib.hid hks
                  have HLS := Lib.hid hls
                  have HGS := Lib.hid hgs
                  have HRI := Lib.hid hri
                  have HNZ := Lib.hid hnz
                  have HSY := Lib.hid hsy
                  clear hks hls hgs hri hnz hsy hd2 hnow hsync HP
                  go_wp2_with fail
                  refine HSY.out.mono ?_
                  rintro e w3 ⟨rfl, hl⟩
                  obtain ⟨S3, h3, _, _⟩ := HHA.out.next hl
                  have HH3 := Lib.hid h3
                  obtain ⟨m8, hm8⟩ : ∃ m8, d2.now.length = m8 := ⟨_, rfl⟩
                  have hna := disk_names h3.disk (by omega)
                  have hnv : DK.namesV d2 = svals (d2.now.map (·.1)) := by
                    unfold DK.namesV svals
                    rw [if_neg (by rw [HLS.out.1]; simp), List.map_map]
                    rfl
                  rw [hnv, svals_length, List.length_map, hm8] at hna
                  rw [hm8] at hcnt
                  have HNA := Lib.hid hna
                  have HM8 := Lib.hid hm8
                  clear hl h3 hna hnv hm8 c0' c1' c2' c3' c5' HSY HHA HRA HOA
                  go_wp2_with fail
                  refine HNA.out.mono ?_
                  rintro e w4 ⟨v8, rfl, hrow8, g8⟩
                  obtain ⟨p8, c8, rfl⟩ := row_slice hrow8
                  have HR8 := Lib.hid hrow8
                  have HH4 := Lib.hid (HH3.out.more g8)
                  have H34 := Lib.hid g8
                  have HTX : Hid (m8 = 0 ∨ ∃ b off, p8 = some ⟨b, off, none⟩ ∧ StrsAt w4 b off (d2.now.map (·.1))) := Lib.hid (row_texts hrow8 (by rw [List.length_map]; exact HM8.out))
                  clear hrow8 g8
                  go_wp2
                  go_loopw [9, 12] (fun a jv W => ∃ (j : Nat) (p9 : Option Addr) (c9 : Nat), j ≤ m8 ∧ jv = .int .i64 j ∧ a = .slice p9 j c9 ∧ Hid (W.ownsRow w4.heap.size 9 1 (.slice p9 j c9) j (svals ((d2.now.take j).map (·.2)))) ∧ Hid (Ext w4 W)) (fun _ jv _ => m8 - (intOf jv).toNat)
                  case atStart => exact ⟨0, none, 0, by omega, rfl, rfl, Lib.hid (World.ownsRow_nil _ _ _ _), Lib.hid (Ext.refl _)⟩
                  case round =>
                    obtain ⟨j, p9, c9, hj, rfl, rfl, HR9, HE9⟩ := hrel
                    by_cases hjm : j < m8
                    · have hjl : j < d2.now.length := by rw [HM8.out]; exact hjm
                      obtain ⟨b8, o8, rfl, hs8⟩ : ∃ b off, p8 = some ⟨b, off, none⟩ ∧ StrsAt w4 b off (d2.now.map (·.1)) := by
                        rcases HTX.out with h | h
                        · omega
                        · exact h
                      have q1 := HE9.out.cell (hs8 j (by rw [List.length_map]; exact hjl))
                      rw [List.getElem_map] at q1
                      have hmem := List.getElem_mem hjl
                      have hgm := DK.get_mem HRI.out hmem
                      have hsz := (HNZ.out _ hmem).1
                      have htk := take_next d2.now j hjl
                      generalize d2.now[j] = pr at *
                      obtain ⟨a1, s1⟩ := pr
                      simp only at q1 hgm hsz
                      have hrd := fun (W : World) (hW : Ext w4 W) => disk_read (HH4.out.disk.ext hW) a1 (by omega)
                      have hrr : DK.read d2 a1 = (s1, true) := by unfold DK.read; rw [if_neg (by rw [HLS.out.1]; simp), hgm.1, hgm.2]
                      rw [hrr] at hrd
                      have HRD := Lib.hid (hrd _ HE9.out)
                      have HTK := Lib.hid htk
                      clear hs8 hmem hgm hsz htk hrd hrr
                      go_wp2_with fail
                      refine HRD.out.mono ?_
                      rintro e w5 ⟨rfl, g5⟩
                      have HR5 := Lib.hid (row_to (row_to HR9.out g5) ((Ext.refl _).alloc (.cells #[.string s1] 9)))
                      have HE5 := Lib.hid ((HE9.out.trans g5).alloc (.cells #[.string s1] 9))
                      have hb5 := HE5.out.size
                      have q2 := g5.cell q1
                      have b1 : j + 1 ≤ maxLen := by unfold maxLen; omega
                      have b2 : (j + 1) * 16 ≤ 140737488355328 := by omega
                      clear g5 q1
                      go_wp2_with (at_builtin; refine wpList_append_lies _ rfl _ _ 27 rfl w4.heap.size 9 i0 (.string ByteArray.empty) 1 16 Try.underlying27 Hi.out hz0 hz1 hz2 rfl (by decide) _ j _ rfl HR5.out ⟨w5.heap.size, 0, none⟩ 1 1 [.string s1] rfl rfl (cell_one_new _ _ _) (by intro u hu; simp at hu; subst hu; rfl) (by decide) b1 b2 hb5 _ rfl ?_; intro g cap w6 hown hgrow hat hgl; have HW6 := Lib.hid hown; have HE6 := Lib.hid (ext_grownV HE5.out HR5.out hgrow (Nat.le_refl _)); clear hown hgrow hat)
                      go_roundw
                      case rel => exact ⟨j + 1, some ⟨g, 0, none⟩, cap, by omega, by go_num, rfl, Lib.hid (by have h6 := HW6.out; rw [svals_snoc] at h6; rw [HTK.out, List.map_append]; exact h6), HE6⟩
                      case measure => simp [intOf]; omega
                    · obtain rfl : j = m8 := by omega
                      have hts : d2.now.take j = d2.now := List.take_of_length_le (by rw [HM8.out]; exact Nat.le_refl _)
                      have hr9 := HR9.out
                      rw [hts] at hr9
                      have HR9' := Lib.hid hr9
                      clear hts hr9
                      go_wp2
                      go_roundw
                      case rel => exact ⟨i + 1, S3, d2, d2.now, j, p8, p9, c8, c9, by omega, by go_num, rfl, rfl, by omega, Lib.hid ⟨row_base (row_to HR8.out HE9.out) HH3.out.ext.size, row_base HR9'.out HH4.out.ext.size, by rw [List.length_map]; exact HM8.out, by rw [List.length_map]; exact HM8.out, fun g e1 e2 => (by have h1 := HR8.out.lt g e1; have h2 := HR9'.out.lt g e2; omega), HH4.out.ext.trans HE9.out⟩, Lib.hid ⟨fun g e hs => (by have h1 := HR8.out.lt g e; have h2 := HH3.out.disk.lt g hs; omega), fun g e hs => (by have h1 := HR9'.out.lt g e; have h2 := HH3.out.disk.lt g hs; have h3 := H34.out.size; omega)⟩, Lib.hid (HH4.out.more HE9.out), Lib.hid ⟨HKS.out, HLS.out, HGS.out.mono (by rw [HLD.out]; omega)⟩⟩
                      case measure => simp [intOf]; omega
                · obtain ⟨f4a, f4b⟩ := ne_facts e4
                  go_wp2
                  go_roundw
                  case rel => exact ⟨i + 1, S, d, l, m, pn, pb, cn, cb, by omega, by go_num, rfl, rfl, hm, HRA, HOA, HHA, Lib.hid ⟨HP.out.1, HP.out.2.1, HP.out.2.2.mono (by rw [HLD.out]; omega)⟩⟩
                  case measure => simp [intOf]; omega
      · obtain rfl : i = n := by omega
        have hcr := disk_crash HHe.out.disk HP.out.2.2 (by have h1 := load_le L i (by rw [HLN.out]; exact Nat.le_refl _); have h2 := HS.out.2; omega) keep torn
        have hkl := fun pr hp => HP.out.1.left keep torn pr hp
        have HKL := Lib.hid hkl
        have HCR := Lib.hid hcr
        clear hcr hkl
        go_wp2_with fail
        refine HCR.out.mono ?_
        rintro e w3 ⟨rfl, hl⟩
        obtain ⟨S3, h3, ht3, hg3⟩ := HHe.out.next hl
        have HH3 := Lib.hid h3
        have hR3 := HR.out.turn ht3 HO.out h3.ext
        have HN3 : Hid (m = 0 ∨ ∃ b off, pn = some ⟨b, off, none⟩ ∧ StrsAt w3 b off (l.map (·.1))) := Lib.hid (row_texts hR3.n hR3.ln)
        have HB3 : Hid (m = 0 ∨ ∃ b off, pb = some ⟨b, off, none⟩ ∧ StrsAt w3 b off (l.map (·.2))) := Lib.hid (row_texts hR3.b hR3.lb)
        have HL3 : Hid (l.length = m) := Lib.hid (by have := hR3.ln; rwa [List.length_map] at this)
        have HSZ : Hid (∀ pr ∈ l, pr.1.size ≤ 2199023255552) := Lib.hid fun pr hp => DK.kept_size HP.out.1 HP.out.2.2 (by have h1 := load_le L i (by rw [HLN.out]; exact Nat.le_refl _); have h2 := HS.out.2; omega) pr hp
        clear hl h3 ht3 hg3 hR3 HHe HR HO HP HCR
        go_wp2
        go_loopw [18] (fun jv W => ∃ j : Nat, j ≤ m ∧ jv = .int .i64 j ∧ Hid (Ext w3 W)) (fun jv _ => m - (intOf jv).toNat)
        case atStart => exact ⟨0, by omega, rfl, Lib.hid (Ext.refl _)⟩
        case round =>
          obtain ⟨j, hj, rfl, HE9⟩ := hrel
          by_cases hjm : j < m
          · have hjl : j < l.length := by rw [HL3.out]; exact hjm
            obtain ⟨b8, o8, rfl, hs8⟩ : ∃ b off, pn = some ⟨b, off, none⟩ ∧ StrsAt w3 b off (l.map (·.1)) := by
              rcases HN3.out with h | h
              · omega
              · exact h
            obtain ⟨b9, o9, rfl, hs9⟩ : ∃ b off, pb = some ⟨b, off, none⟩ ∧ StrsAt w3 b off (l.map (·.2)) := by
              rcases HB3.out with h | h
              · omega
              · exact h
            have q1 := HE9.out.cell (hs8 j (by rw [List.length_map]; exact hjl))
            have q0 := hs9 j (by rw [List.length_map]; exact hjl)
            rw [List.getElem_map] at q1 q0
            have hmem := List.getElem_mem hjl
            have hgm := HKL.out _ hmem
            have hsz := HSZ.out _ hmem
            generalize l[j] = pr at *
            obtain ⟨a1, s1⟩ := pr
            simp only at q1 q0 hgm hsz
            have hrd := disk_read (HH3.out.disk.ext HE9.out) a1 hsz
            have hrr : DK.read (DK.crash d keep torn) a1 = (s1, true) := by
              show (DK.get (DK.left d keep torn) a1, DK.has (DK.left d keep torn) a1) = _
              rw [hgm.1, hgm.2]
            rw [hrr] at hrd
            have HRD := Lib.hid hrd
            have Q0 := Lib.hid q0
            have t2 : (s1.toList == s1.toList) = true := by simp
            have t3 : (s1.toList != s1.toList) = false := by simp
            clear hs8 hs9 hmem hgm hsz hrd hrr q0
            go_wp2_with fail
            refine HRD.out.mono ?_
            rintro e w5 ⟨rfl, g5⟩
            have HE5 := Lib.hid (HE9.out.trans g5)
            have q2 := HE5.out.cell Q0.out
            clear g5 q1
            go_wp2
            go_roundw
            case rel => exact ⟨j + 1, by omega, by go_num, HE5⟩
            case measure => simp [intOf]; omega
          · obtain rfl : j = m := by omega
            go_wp2_with fail
            refine (disk_awake _).mono ?_
            rintro e w7 ⟨rfl, g7⟩
            go_wp2
            go_ret
            exact ⟨rfl, ((H1.out.trans HH3.out.ext).trans HE9.out).trans g7⟩
end Go.Proofs.Ytfegfbhchdfibaa
