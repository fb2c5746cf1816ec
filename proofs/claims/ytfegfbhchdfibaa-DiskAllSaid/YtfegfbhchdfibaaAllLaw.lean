/- The walk of DiskAll. PRINTED BY mk_alllaw.py. -/
import Derived.Test.YtfegfbhchdfibaaAllRows
namespace Go.Proofs.Ytfegfbhchdfibaa
open Go.RowKit

set_option maxRecDepth 100000 in
set_option maxHeartbeats 4000000 in
theorem diskAll_walk (p : Option Addr) (n c : Nat) (L : List ActV) (w : World) (hx : ActsW w p n L) (hn : n ≤ maxLen) (hz : ∀ y ∈ L, y.Sized) (hwf : ∀ y ∈ L, y.Wf) :
    Calls Try.prog 4 #[.slice p n c] w fun e w' => e = .returned (.bool true) ∧ Ext w w' := by
  obtain ⟨i0, hi0, hz0, hz1, hz2⟩ := info_parts info_str
  have Hi := Lib.hid hi0
  clear hi0
  have HGR := Lib.hid (great_acts p n c L w hx hn hz)
  obtain ⟨y1, y4⟩ := hx
  have HX : Hid (n = 0 ∨ ∃ b off, p = some ⟨b, off, none⟩ ∧ ActsAt w b off L) := y4
  have HLN := Lib.hid y1
  have HWF := Lib.hid hwf
  unfold maxLen at hn
  clear y1 y4 hz hwf
  go_enter Try.func4, Try.ntmps4
  go_wp2_with fail
  refine HGR.out.mono ?_
  rintro e w1 ⟨r, rfl, h1, hsm⟩
  cases r with
  | true =>
    go_wp2_with fail
    refine (disk_awake _).mono ?_
    rintro e w2 ⟨rfl, h2⟩
    go_wp2
    go_ret
    exact ⟨rfl, h1.trans h2⟩
  | false =>
    have HS := Lib.hid (hsm rfl)
    have H1 := Lib.hid h1
    clear hsm h1
    have hn60 : n ≤ 60 := by have := HS.out.1; have := HLN.out; omega
    have HN := Lib.hid (disk_new 100 (by omega) (by omega) w1)
    clear hn
    go_wp2_with fail
    refine HN.out.mono ?_
    rintro e w2 ⟨B, S0, rfl, hD, hx2, hS⟩
    have H2 : Hid (Held w1 w2 S0 B (DK.new 100)) := Lib.hid ⟨hD, hx2, hS⟩
    have HSL := Lib.hid hD.lt'
    clear hD hx2 hS HN
    go_upto_region 7 with fail
    have gM := heap_alloc_new w2 (.cells #[.int .i64 100, .slice none 0 0, .slice none 0 0, .slice none 0 0, .bool false, .int .i64 (-1)] 44)
    have HGM := Lib.hid gM
    have hxm := (Ext.refl w2).alloc (.cells #[.int .i64 100, .slice none 0 0, .slice none 0 0, .slice none 0 0, .bool false, .int .i64 (-1)] 44)
    have HXM := Lib.hid hxm
    clear gM hxm
    have hnm : ¬ S0 w2.heap.size ∧ w1.heap.size ≤ w2.heap.size := ⟨fun h => Nat.lt_irrefl _ (HSL.out _ h), H2.out.ext.size⟩
    have HNM := Lib.hid hnm
    have hB0 := (⟨H2.out.more HXM.out, FsV.nil _, FsV.nil _, StsV.nil _, .inl rfl, .inl rfl, .inl rfl, ⟨rfl, (fun y hy => by cases hy), by omega, fun _ => rfl⟩⟩ : Both w1 _ S0 B (DK.new 100) [] (-1) (.slice none 0 0) (.slice none 0 0) (.slice none 0 0))
    have HB0 := Lib.hid hB0
    clear hnm hB0
    generalize w2.alloc _ = W at *
    generalize w2.heap.size = M at *
    clear H2 HSL HXM
    go_wp2
    go_loopw [5] (fun iv W' => ∃ (i : Nat) (S : Nat → Prop) (d : DK.D) (T : List RStep) (fuse : Int) (n1 c1 n2 c2 n3 c3 : Nat) (q1 q2 q3 : Option Addr), i ≤ n ∧ iv = .int .i64 i ∧ Hid (Both w1 W' S B d T fuse (.slice q1 n1 c1) (.slice q2 n2 c2) (.slice q3 n3 c3)) ∧ Hid (W'.heap[M]? = some (.cells #[.int .i64 d.room, .slice q1 n1 c1, .slice q2 n2 c2, .slice q3 n3 c3, .bool d.dead, .int .i64 fuse] 44 (0, 0))) ∧ Hid (¬ S M ∧ w1.heap.size ≤ M) ∧ Hid (DK.Good (2 * i + load L i) d) ∧ Hid (DK.Live d)) (fun iv _ => n - (intOf iv).toNat)
    case atStart => exact ⟨0, S0, _, [], -1, 0, 0, 0, 0, 0, 0, none, none, none, by omega, rfl, HB0, HGM, HNM, Lib.hid (DK.new_good _ (by omega)), Lib.hid ⟨rfl, rfl⟩⟩
    case round =>
      clear HB0 HGM HNM
      obtain ⟨i, S, d, T, fuse, n1, c1, n2, c2, n3, c3, q1, q2, q3, hi, rfl, HBO, HM, HNS, HGD, HLV⟩ := hrel
      by_cases hlt : i < n
      · have hil : i < L.length := by rw [HLN.out]; exact hlt
        obtain ⟨b, off, rfl, hs⟩ : ∃ b off, p = some ⟨b, off, none⟩ ∧ ActsAt w b off L := by
          rcases HX.out with h | h
          · omega
          · exact h
        have hxw := H1.out.trans HBO.out.held.ext
        obtain ⟨z0, z1, z2, z3, z4, z5⟩ := (hs.ext hxw).cs hil
        have hld := load_next L i hil
        have hl1 := load_le L (i + 1) (by omega)
        have hl2 := HS.out.2
        have hyw := HWF.out L[i] (List.getElem_mem hil)
        generalize L[i] = y at *
        rw [hld] at hl1
        have hys : y.name.size ≤ 20000 ∧ y.to_.size ≤ 20000 ∧ y.s.size ≤ 20000 := by omega
        have hgl := HGD.out.lstep y hys (by have := hyw.1.2; omega)
        have hst := fun (W' : World) (he : Ext wr W') => law_step (HBO.out.more he) HGD.out (by omega) y hys hyw
        have hgm := HGD.out.mono (M := 2 * (i + 1) + load L (i + 1)) (by rw [hld]; omega)
        have HGM := Lib.hid hgm
        have hlv := fun hk => HLV.out.lstep y hk
        obtain ⟨d5, hd5⟩ : ∃ d5, DK.lstep d y = d5 := ⟨_, rfl⟩
        rw [hd5] at hst hgl hlv
        have HG5 : Hid (DK.Good (2 * (i + 1) + load L (i + 1)) d5) := Lib.hid (hgl.mono (by rw [hld]; omega))
        obtain ⟨kd, nm, tt, at', nn, s⟩ := y
        simp only at z0 z1 z2 z3 z4 z5 hlv
        unfold rdCells actCells at hst
        simp only at hst
        have HST := Lib.hid (fun (W5 : World) (he : Ext wr W5) => (hst W5 he).mono fun e w5 h => And.intro he h)
        have HLV5 := Lib.hid hlv
        have i1 : (0 : Int) ≤ (i : Int) := by omega
        have i2 : (i : Int) < (n : Int) := by omega
        have HLT := Lib.hid (Array.getElem?_eq_some_iff.1 HM.out).1
        clear hs hxw hld hl1 hl2 hyw hys hgl hst hd5 hlv hgm
        by_cases hk0 : 0 ≤ kd
        · have t0 : decide (0 ≤ kd) = true := decide_eq_true hk0
          by_cases hk4 : kd ≤ 4
          · have t1 : decide (kd ≤ 4) = true := decide_eq_true hk4
            have HLF := Lib.hid (HLV5.out ⟨hk0, hk4⟩)
            obtain ⟨a0, a1, a2, a3, a4, a5⟩ := box6 HM.out
            obtain ⟨rm, hrm⟩ : ∃ r, d.room = r := ⟨_, rfl⟩
            obtain ⟨dd, hdd⟩ : ∃ r, d.dead = r := ⟨_, rfl⟩
            rw [hrm] at HST a0 HM
            rw [hdd] at HST a4 HM
            clear hrm hdd hk0 hk4
            go_wp2
            refine wp_region_noPanic ?_
            go_region_with (first
              | (go_at_call 18; refine (HST.out _ (by first | exact Ext.refl _ | exact (Ext.refl _).drew)).mono ?_; clear z0 z1 z2 z3 z4 z5 a0 a1 a2 a3 a4 a5; rintro e w5 ⟨hxc, S5, sv5, nv5, tv5, T5, f5, rfl, hb5, ht5, hg5⟩; have HB5 := Lib.hid hb5; obtain ⟨p1, e1, rfl⟩ := hb5.fs.slice; obtain ⟨p2, e2, rfl⟩ := hb5.fn.slice; obtain ⟨p3, e3, rfl⟩ := hb5.st.slice; have HM5 := Lib.hid (((ht5.block M (Nat.lt_of_lt_of_le HLT.out (Ext.size hxc)) HNS.out.1).trans (hxc.block HLT.out)).trans HM.out); have HNM5 : Hid (¬ S5 M) := Lib.hid (fun h => by rcases hg5 M h with h | h; (· exact HNS.out.1 h); (· have h1 := Ext.size hxc; have h2 := HLT.out; omega)); obtain ⟨a0, a1, a2, a3, a4, a5⟩ := box6 HM5.out; obtain ⟨r0, r1, r2, r3, r4, r5⟩ := boxF HM5.out; clear hb5 ht5 hg5 hxc))
            all_goals
              refine NoPanic.normal ?_
              go_wp2
              go_roundw
              case rel => exact ⟨i + 1, S5, d5, T5, f5, _, e1, _, e2, _, e3, p1, p2, p3, by omega, by go_num, Lib.hid (HB5.out.past (grown_set6 w5 M (.int .i64 d5.room) (.slice p1 d5.safe.length e1) (.slice p2 d5.now.length e2) (.slice p3 T5.length e3) (.bool d5.dead) (.int .i64 f5)) (loose6 HM5.out) HNM5.out HNS.out.2 (bare6 HM5.out)), Lib.hid (set6_heap HM5.out _ _ _ _ _ _), Lib.hid ⟨HNM5.out, HNS.out.2⟩, HG5, HLF⟩
              case measure => simp [intOf]; omega
          · have t1 : decide (kd ≤ 4) = false := decide_eq_false hk4
            clear hk0 hk4
            go_wp2
            go_roundw
            case rel => exact ⟨i + 1, S, d, T, fuse, n1, c1, n2, c2, n3, c3, q1, q2, q3, by omega, by go_num, HBO, HM, HNS, HGM, HLV⟩
            case measure => simp [intOf]; omega
        · have t0 : decide (0 ≤ kd) = false := decide_eq_false hk0
          clear hk0
          go_wp2
          go_roundw
          case rel => exact ⟨i + 1, S, d, T, fuse, n1, c1, n2, c2, n3, c3, q1, q2, q3, by omega, by go_num, HBO, HM, HNS, HGM, HLV⟩
          case measure => simp [intOf]; omega
      · obtain rfl : i = n := by omega
        have hgood := HGD.out.mono (M := 30000) (by
          have h1 := load_le L i (by rw [HLN.out]; exact Nat.le_refl _)
          have h2 := HS.out.2
          omega)
        have HG := Lib.hid hgood
        have HSM := Lib.hid (hgood.nowS.mono (M := 1073741824) (by omega))
        have HRI := Lib.hid HBO.out.held.disk.riseN
        obtain ⟨m, hm⟩ : ∃ m, d.now.length = m := ⟨_, rfl⟩
        have hmb : m ≤ 30000 := by have := hgood.nowS.1; omega
        have hna := disk_names HBO.out.held.disk (by omega)
        rw [DK.names_live HLV.out.1, svals_length, List.length_map, hm] at hna
        have HNA := Lib.hid hna
        have HMM := Lib.hid hm
        have HTN : Hid (d.todo.length ≤ 30000) := Lib.hid hgood.len
        have HSL := Lib.hid HBO.out.held.disk.lt'
        clear hgood hna hm HX HGD HM HNS
        go_wp2_with fail
        refine HNA.out.mono ?_
        rintro e wN ⟨v, rfl, hrow, hxN⟩
        obtain ⟨pn, cn, rfl, htx⟩ := tx_of_row hrow (by rw [List.length_map]; exact HMM.out)
        have HTX := Lib.hid htx
        have HHN := Lib.hid (HBO.out.held.more hxN)
        have HXN := Lib.hid hxN
        clear hrow htx hxN HNA
        go_wp2
        go_loopw [6, 8, 9, 10] (fun a kv _ _ W' => ∃ (k : Nat) (q : Option Addr) (cb : Nat), k ≤ m ∧ kv = .int .i64 k ∧ a = .slice q k cb ∧ Hid (W'.ownsRow wN.heap.size 9 1 (.slice q k cb) k (svals ((d.now.take k).map (·.2)))) ∧ Hid (Ext wN W')) (fun _ kv _ _ _ => m - (intOf kv).toNat)
        case atStart => exact ⟨0, none, 0, by omega, rfl, rfl, Lib.hid (World.ownsRow_nil _ _ _ _), Lib.hid (Ext.refl _)⟩
        case round =>
          obtain ⟨k, q, cb, hk, rfl, rfl, HR9, HE9⟩ := hrel
          by_cases hkm : k < m
          · have hkl : k < d.now.length := by rw [HMM.out]; exact hkm
            obtain ⟨g, rfl, hgc⟩ : ∃ g, pn = some ⟨g, 0, none⟩ ∧ ∀ i (h : i < (d.now.map (·.1)).length), wN.cell? ⟨g, i, none⟩ = some (.string (d.now.map (·.1))[i]) := by
              rcases HTX.out with h | ⟨g, e, _, hc⟩
              · omega
              · exact ⟨g, e, hc⟩
            have q1 := HE9.out.cell (hgc k (by rw [List.length_map]; exact hkl))
            rw [List.getElem_map] at q1
            have hmem := List.getElem_mem hkl
            have hgm := DK.get_mem HRI.out hmem
            have hsz := (HSM.out.2 _ hmem).1
            have htk := take_next d.now k hkl
            generalize d.now[k] = pr at *
            obtain ⟨a1, s1⟩ := pr
            simp only at q1 hgm hsz
            have hrd := disk_read (HHN.out.disk.ext HE9.out) a1 (by omega)
            have hrr : DK.read d a1 = (s1, true) := by unfold DK.read; rw [if_neg (by rw [HLV.out.1]; simp), hgm.1, hgm.2]
            rw [hrr] at hrd
            have HRD := Lib.hid hrd
            have HTK := Lib.hid htk
            have i1 : (0 : Int) ≤ (k : Int) := by omega
            have i2 : (k : Int) < (m : Int) := by omega
            clear hmem hgm hsz htk hrd hrr hgc
            go_wp2_with fail
            refine HRD.out.mono ?_
            rintro e w5 ⟨rfl, g5⟩
            have HR5 := Lib.hid (row_to (row_to HR9.out g5) ((Ext.refl _).alloc (.cells #[.string s1] 9)))
            have HE5 := Lib.hid ((HE9.out.trans g5).alloc (.cells #[.string s1] 9))
            have hb5 := HE5.out.size
            have b1 : k + 1 ≤ maxLen := by unfold maxLen; omega
            have b2 : (k + 1) * 16 ≤ 140737488355328 := by omega
            clear g5 q1
            go_wp2_with (at_builtin; refine wpList_append_lies _ rfl _ _ 27 rfl wN.heap.size 9 i0 (.string ByteArray.empty) 1 16 Try.underlying27 Hi.out hz0 hz1 hz2 rfl (by decide) _ k _ rfl HR5.out ⟨w5.heap.size, 0, none⟩ 1 1 [.string s1] rfl rfl (cell_one_new _ _ _) (by intro u hu; simp at hu; subst hu; rfl) (by decide) b1 b2 hb5 _ rfl ?_; intro g6 cap w6 hown hgrow hat hgl; have HW6 := Lib.hid hown; have HE6 := Lib.hid (ext_grownV HE5.out HR5.out hgrow (Nat.le_refl _)); clear hown hgrow hat)
            go_roundw
            case rel => exact ⟨k + 1, some ⟨g6, 0, none⟩, cap, by omega, by go_num, rfl, Lib.hid (by have h6 := HW6.out; rw [svals_snoc] at h6; rw [HTK.out, List.map_append]; exact h6), HE6⟩
            case measure => simp [intOf]; omega
          · obtain rfl : k = m := by omega
            have hb := HR9.out
            rw [List.take_of_length_le (by rw [HMM.out]; exact Nat.le_refl _)] at hb
            obtain ⟨pb, cb', he, htb⟩ := tx_of_row hb (by rw [List.length_map]; exact HMM.out)
            injection he with he1 he2 he3
            subst he1
            have HTB := Lib.hid htb
            have HTX2 := Lib.hid (HTX.out.ext HE9.out)
            have hhd := HHN.out.more HE9.out
            have HHD := Lib.hid hhd
            have HPE := Lib.hid (disk_pending hhd.disk)
            have HCR := Lib.hid (disk_crash hhd.disk HG.out (by omega) (d.todo.length : Int) 0)
            have hnow9 := DK.crash_all HG.out
            have hdead9 : (DK.crash d (d.todo.length : Int) 0).dead = false := rfl
            generalize DK.crash d (d.todo.length : Int) 0 = d9 at *
            generalize d.todo.length = tl at *
            have HN9 := Lib.hid hnow9
            have HD9 := Lib.hid hdead9
            clear hb he2 he3 htb hhd hnow9 hdead9
            go_wp2_with fail
            refine HPE.out.mono ?_
            rintro e w5 ⟨rfl, rfl⟩
            go_wp2_with fail
            refine HCR.out.mono ?_
            rintro e w6 ⟨rfl, hl⟩
            obtain ⟨S9, h9, ht9, hg9⟩ := HHD.out.next hl
            have HH9 := Lib.hid h9
            have HTX9 := Lib.hid (HTX2.out.turn ht9 HSL.out)
            have HTB9 := Lib.hid (HTB.out.turn ht9 (fun k hk => Nat.lt_of_lt_of_le (HSL.out k hk) HXN.out.size))
            have hna := disk_names h9.disk (by rw [HN9.out, HMM.out]; omega)
            rw [DK.names_live HD9.out, svals_length, List.length_map, HN9.out, HMM.out] at hna
            have HNA := Lib.hid hna
            clear hl h9 ht9 hg9 hna
            go_wp2_with fail
            refine HNA.out.mono ?_
            rintro e w7 ⟨v7, rfl, hrow7, hx7⟩
            obtain ⟨pa, ca, rfl, hta⟩ := tx_of_row hrow7 (by rw [List.length_map]; exact HMM.out)
            have HTA := Lib.hid hta
            have HTX7 := Lib.hid (HTX9.out.ext hx7)
            have HTB7 := Lib.hid (HTB9.out.ext hx7)
            have HH7 := Lib.hid (HH9.out.more hx7)
            clear hrow7 hx7 hta HNA
            go_wp2
            go_loopw [12, 13, 14] (fun kv _ _ W' => ∃ j : Nat, j ≤ k ∧ kv = .int .i64 j ∧ Hid (Ext w7 W')) (fun kv _ _ _ => k - (intOf kv).toNat)
            case atStart => exact ⟨0, by omega, rfl, Lib.hid (Ext.refl _)⟩
            case round =>
              obtain ⟨j, hj, rfl, HE⟩ := hrel
              by_cases hjm : j < k
              · have hjl : j < d.now.length := by rw [HMM.out]; exact hjm
                obtain ⟨g1, rfl, hc1⟩ : ∃ g, pn = some ⟨g, 0, none⟩ ∧ ∀ i (h : i < (d.now.map (·.1)).length), w7.cell? ⟨g, i, none⟩ = some (.string (d.now.map (·.1))[i]) := by
                  rcases HTX7.out with h | ⟨g, e, _, hc⟩
                  · omega
                  · exact ⟨g, e, hc⟩
                obtain ⟨g2, rfl, hc2⟩ : ∃ g, pa = some ⟨g, 0, none⟩ ∧ ∀ i (h : i < (d.now.map (·.1)).length), w7.cell? ⟨g, i, none⟩ = some (.string (d.now.map (·.1))[i]) := by
                  rcases HTA.out with h | ⟨g, e, _, hc⟩
                  · omega
                  · exact ⟨g, e, hc⟩
                obtain ⟨g3, rfl, hc3⟩ : ∃ g, q = some ⟨g, 0, none⟩ ∧ ∀ i (h : i < (d.now.map (·.2)).length), w7.cell? ⟨g, i, none⟩ = some (.string (d.now.map (·.2))[i]) := by
                  rcases HTB7.out with h | ⟨g, e, _, hc⟩
                  · omega
                  · exact ⟨g, e, hc⟩
                have q1 := HE.out.cell (hc1 j (by rw [List.length_map]; exact hjl))
                have q2 := HE.out.cell (hc2 j (by rw [List.length_map]; exact hjl))
                have q3 := HE.out.cell (hc3 j (by rw [List.length_map]; exact hjl))
                rw [List.getElem_map] at q1 q2 q3
                have hmem := List.getElem_mem hjl
                have hgm := DK.get_mem HRI.out hmem
                have hsz := (HSM.out.2 _ hmem).1
                generalize d.now[j] = pr at *
                obtain ⟨a1, s1⟩ := pr
                simp only at q1 q2 q3 hgm hsz
                have hrd := disk_read (HH7.out.disk.ext HE.out) a1 (by omega)
                have hrr : DK.read d9 a1 = (s1, true) := by unfold DK.read; rw [if_neg (by rw [HD9.out]; simp), HN9.out, hgm.1, hgm.2]
                rw [hrr] at hrd
                have HRD := Lib.hid hrd
                have i1 : (0 : Int) ≤ (j : Int) := by omega
                have i2 : (j : Int) < (k : Int) := by omega
                clear hmem hgm hsz hrd hrr hc1 hc2 hc3
                go_wp2_with fail
                refine HRD.out.mono ?_
                rintro e w8 ⟨rfl, g8⟩
                have r1 := cell_ext (g8.cell q1)
                have r2 := cell_ext (g8.cell q2)
                have r3 := cell_ext (g8.cell q3)
                have HE8 := Lib.hid (HE.out.trans g8)
                clear q1 q2 q3 g8
                go_wp2
                refine wp_region_quiet_ext (by kernel_rfl) (by kernel_rfl) ?_
                repeat (go_big_quiet_step (first | fail))
                refine wpQuiet_nil ?_
                intro w10 g10
                have HE10 := Lib.hid (HE8.out.trans g10)
                clear r1 r2 r3 g10
                go_wp2
                go_roundw
                case rel => exact ⟨j + 1, by omega, by go_num, HE10⟩
                case measure => simp [intOf]; omega
              · obtain rfl : j = k := by omega
                go_wp2_with fail
                refine (disk_awake _).mono ?_
                rintro e w8 ⟨rfl, h8⟩
                go_wp2
                go_ret
                exact ⟨rfl, (H1.out.trans ((HH7.out.ext).trans HE.out)).trans h8⟩
end Go.Proofs.Ytfegfbhchdfibaa
