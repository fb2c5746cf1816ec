/- The walk of WalTorn. -/
import Derived.Test.YthkccaifabpleaaWalAppendsWalk
namespace Go.Proofs.Ythkccaifabpleaa
open Go.RowKit

namespace DK
theorem good_torn {N : Nat} {room : Int} (hr : 0 ≤ room ∧ room ≤ 32768) (c : Option (List UInt8)) (f : List UInt8) (h : (c.getD []).length + f.length ≤ N) (hN : 3 ≤ N) (hb : N ≤ 1000000) : Good N (stX room c f) := by
  have hd : runs (fileB c) [.write logS (c.getD []).length (str f)] = fileB (some (c.getD [] ++ f)) := do_log c f
  refine ⟨hd.symm, fun i hi => ?_, fun i hi => ?_, hr, fun _ h => (by cases h), by show 1 ≤ N; omega⟩
  · obtain rfl : i = 0 := by have h1 : i < 1 := hi; omega
    have hs : (str (c.getD [])).size = (c.getD []).length := rfl
    have hf : (str f).size = f.length := rfl
    show (c.getD []).length ≤ (get (fileB c) logS).size ∧ (str f).size ≤ 2199023255552 ∧ logS.size ≤ 2199023255552
    rw [get_log, hs, hf]
    exact ⟨Nat.le_refl _, by omega, by decide⟩
  · have h1 : i ≤ 1 := hi
    rcases (by omega : i = 0 ∨ i = 1) with rfl | rfl
    · exact small_log c (by omega) hN
    · show Small N (runs (fileB c) [.write logS (c.getD []).length (str f)])
      rw [hd]
      exact small_log _ (by show (c.getD [] ++ f).length ≤ N; rw [List.length_append]; exact h) hN
end DK

/-- What a scan finds in a log of which the last record may be torn. -/
theorem torn_scan (L : List (List UInt8)) (s : List UInt8) (hl : L.length ≤ 1000) (hs : ∀ x ∈ L, x.length ≤ 20000) (h2 : s.length ≤ 20000) {c' : Option (List UInt8)} (h : c' = DK.optL L ∨ ∃ j, j ≤ (Wal.frame (L.length : Nat) s).length ∧ c' = some ((DK.optL L).getD [] ++ (Wal.frame (L.length : Nat) s).take j)) :
    (c'.getD []).length ≤ (Wal.frames 0 L).length + (Wal.frame (L.length : Nat) s).length ∧ (Wal.scan (c'.getD []) 0 = (L, (Wal.frames 0 L).length) ∨ ∃ z, Wal.scan (c'.getD []) 0 = (L ++ [s], z)) := by
  rcases h with rfl | ⟨j, hj, rfl⟩
  · rw [DK.optL_get]
    exact ⟨by omega, .inl (scan_all hl hs)⟩
  · rw [DK.optL_get]
    have hsn : Wal.frames 0 (L ++ [s]) = Wal.frames 0 L ++ Wal.frame (L.length : Nat) s := by rw [Wal.frames_snoc, Nat.zero_add]
    have ht : Wal.frames 0 L ++ (Wal.frame (L.length : Nat) s).take j = (Wal.frames 0 (L ++ [s])).take ((Wal.frames 0 L).length + j) := by
      rw [hsn, List.take_append, List.take_of_length_le (l := Wal.frames 0 L) (by omega), Nat.add_sub_cancel_left]
    have hz : ∀ x ∈ L ++ [s], x.length ≤ 1000000 := fun x hx => by
      rcases List.mem_append.1 hx with h | h
      · have := hs x h; omega
      · obtain rfl : x = s := by simpa using h
        omega
    have hll : (L ++ [s]).length = L.length + 1 := by rw [List.length_append]; rfl
    refine ⟨by show (Wal.frames 0 L ++ _).length ≤ _; rw [List.length_append, List.length_take]; omega, ?_⟩
    show Wal.scan (Wal.frames 0 L ++ _) 0 = _ ∨ _
    rw [show (some (Wal.frames 0 L ++ (Wal.frame (L.length : Nat) s).take j)).getD [] = Wal.frames 0 L ++ (Wal.frame (L.length : Nat) s).take j from rfl, ht]
    by_cases hlt : j < (Wal.frame (L.length : Nat) s).length
    · left
      have h1 := Wal.scan_cut (L ++ [s]) L.length ((Wal.frames 0 L).length + j) (by omega) hz (by omega) (by rw [List.take_left' rfl]; omega) (.inr (by rw [← hll, List.take_length, hsn, List.length_append]; omega))
      rw [List.take_left' rfl] at h1
      exact h1
    · right
      have h1 := Wal.scan_cut (L ++ [s]) (L.length + 1) ((Wal.frames 0 L).length + j) (by omega) hz (by omega) (by rw [← hll, List.take_length, hsn, List.length_append]; omega) (.inl hll.symm)
      rw [← hll, List.take_length] at h1
      exact ⟨_, h1⟩

/-- A log read whole. -/
theorem load_log {w : World} {S : Nat → Prop} {B : Nat} {m : Int} {c : Option (List UInt8)} (h : DiskAt w S B (DK.stD m c)) (hc : (c.getD []).length ≤ 1000000) {L : List (List UInt8)} {z : Nat} (hs : Wal.scan (c.getD []) 0 = (L, z)) :
    Calls Try.prog 17 #[.pointer (some ⟨B, 0, none⟩), .string ⟨#[108, 111, 103]⟩] w fun e w' => ∃ v, e = .returned (.tuple #[v, .int .i64 (z : Int)]) ∧
      w'.ownsRow w.heap.size 9 1 v L.length (texts L) ∧ Ext w w' := by
  have hld := wal_load h rfl DK.logS (by decide) (by show (DK.get (DK.fileB c) DK.logS).size ≤ _; rw [DK.get_log]; exact hc) (fun hno => by
    have h1 : DK.has (DK.fileB c) DK.logS = false := hno
    show DK.get (DK.fileB c) DK.logS = _
    rw [DK.has_log] at h1
    rw [DK.get_log]
    cases c with
    | none => rfl
    | some z => cases h1)
  have hgl : (DK.get (DK.stD m c).now DK.logS).data.toList = c.getD [] := by
    show (DK.get (DK.fileB c) DK.logS).data.toList = _
    rw [DK.get_log]
    rfl
  rw [hgl, hs] at hld
  exact hld

theorem fits_3000 {l : List UInt8} (h : l.length ≤ 30000) : DK.fitsL 3000 l = true := by
  unfold DK.fitsL DK.blk
  refine decide_eq_true ?_
  omega

set_option maxRecDepth 100000 in
set_option maxHeartbeats 1000000 in
theorem walTorn_walk (p : Option Addr) (n c : Nat) (l : List ByteArray) (last : ByteArray) (x y z : Int) (w : World) (hx : Texts w p n l) (hz : ∀ s ∈ l, s.size ≤ 140737488351232) (hzl : last.data.toList.length ≤ 140737488351232) :
    Calls Try.prog 7 #[.slice p n c, .string last, .agg #[.int .i64 x, .int .i64 y, .int .i64 z]] w fun e w' => e = .returned (.bool true) ∧ Ext w w' := by
  have x1 := (Ext.refl w).alloc (.cells #[.int .i64 x, .int .i64 y, .int .i64 z] 41)
  have cb0 : (w.alloc (.cells #[.int .i64 x, .int .i64 y, .int .i64 z] 41)).cell? ⟨w.heap.size, 0, none⟩ = some (.int .i64 x) := alloc_cell w _ _ 0
  have cb1 : (w.alloc (.cells #[.int .i64 x, .int .i64 y, .int .i64 z] 41)).cell? ⟨w.heap.size, 1, none⟩ = some (.int .i64 y) := alloc_cell w _ _ 1
  have cb2 : (w.alloc (.cells #[.int .i64 x, .int .i64 y, .int .i64 z] 41)).cell? ⟨w.heap.size, 2, none⟩ = some (.int .i64 z) := alloc_cell w _ _ 2
  have HC0 := Lib.hid cb0
  have HC1 := Lib.hid cb1
  have HC2 := Lib.hid cb2
  have hgr := great_any p n c l _ (hx.ext x1) hz
  have HGR := Lib.hid hgr
  have HX1 := Lib.hid x1
  have HTX := Lib.hid hx
  obtain ⟨y1, y2, y3, y4⟩ := hx
  have HX : Hid (n = 0 ∨ ∃ b off, p = some ⟨b, off, none⟩ ∧ StrsAt w b off l) := y4
  have HLN := Lib.hid y1
  have hn63 : n ≤ 9223372036854775807 := y2
  have hls : last.size ≤ 140737488351232 := hzl
  clear cb0 cb1 cb2 hgr x1 y1 y2 y3 y4 hz hzl
  go_enter Try.func7, Try.ntmps7
  go_wp2_with fail
  refine HGR.out.mono ?_
  rintro e w1 ⟨r, rfl, h1, hsm⟩
  cases r with
  | true =>
    go_wp2_with fail
    refine (wal_awake _).mono ?_
    rintro e w2 ⟨rfl, h2⟩
    go_wp2
    go_ret
    exact ⟨rfl, (HX1.out.trans h1).trans h2⟩
  | false =>
    have HS := Lib.hid (hsm rfl)
    have hn40 : n ≤ 40 := by have := HS.out.1; have := HLN.out; omega
    have H1 := Lib.hid (HX1.out.trans h1)
    have HB0 := Lib.hid (h1.cell HC0.out)
    have HB1 := Lib.hid (h1.cell HC1.out)
    have HB2 := Lib.hid (h1.cell HC2.out)
    clear hsm h1 hn63
    by_cases hlg : last.size ≤ 2000
    · have HN := Lib.hid (disk_new 3000 (by omega) (by omega) w1)
      go_wp2_with fail
      refine HN.out.mono ?_
      rintro e w2 ⟨B, S0, rfl, hD, hx2, hS⟩
      have hst0 : DK.new (3000 : Int) = DK.stD 3000 (DK.optL []) := by unfold DK.optL; rw [if_pos rfl]; rfl
      rw [hst0] at hD
      have H2 : Hid (Held w1 w2 S0 B (DK.stD 3000 (DK.optL []))) := Lib.hid ⟨hD, hx2, hS⟩
      clear hD hx2 hS hst0 HN
      go_wp2
      go_loopw [8, 9] (fun at_ i W => ∃ (k : Nat) (S : Nat → Prop), k ≤ n ∧ i = .int .i64 k ∧ at_ = .int .i64 (Wal.frames 0 ((lists l).take k)).length ∧ Hid (Held w1 W S B (DK.stD 3000 (DK.optL ((lists l).take k))))) (fun _ i _ => n - (intOf i).toNat)
      case atStart => exact ⟨0, S0, by omega, rfl, by simp [Wal.frames], H2⟩
      case round =>
        clear H2
        obtain ⟨k, S, hk, rfl, rfl, HHe⟩ := hrel
        have hfs := frames_sub HS.out (List.take_sublist k (lists l))
        have hllen : ((lists l).take k).length = k := by rw [List.length_take, lists_length, HLN.out]; omega
        have HFS := Lib.hid hfs
        have hF := hfs.1
        by_cases hlt : k < n
        · have hlk : k < l.length := by rw [HLN.out]; exact hlt
          obtain ⟨b, off, rfl, hs⟩ : ∃ b off, p = some ⟨b, off, none⟩ ∧ StrsAt w b off l := by
            rcases HX.out with h | h
            · omega
            · exact h
          have HCELL := Lib.hid (fun (W : World) (hW : Ext w1 W) => (H1.out.trans hW).cell (hs k hlk))
          have hcell := HCELL.out _ HHe.out.ext
          have hsz := small_each HS.out l[k].data.toList (List.mem_map.2 ⟨l[k], List.getElem_mem hlk, rfl⟩)
          have hkl : k < (lists l).length := by rw [lists_length]; exact hlk
          have hnx : (lists l).take (k + 1) = (lists l).take k ++ [l[k].data.toList] := by
            rw [List.take_succ_eq_append_getElem hkl]
            simp [lists]
          have hfs1 := frames_sub HS.out (List.take_sublist (k + 1) (lists l))
          generalize l[k] = s at *
          obtain ⟨L, hL⟩ : ∃ L, (lists l).take k = L := ⟨_, rfl⟩
          rw [hL] at hnx HHe HFS hllen hF hfs ⊢
          rw [hnx] at hfs1
          have hss : s.size ≤ 20000 := hsz
          obtain ⟨f, hf⟩ : ∃ f, Wal.frame (k : Nat) s.data.toList = f := ⟨_, rfl⟩
          have hsn : Wal.frames 0 (L ++ [s.data.toList]) = Wal.frames 0 L ++ f := by rw [Wal.frames_snoc, Nat.zero_add, hllen, hf]
          have hfp := Wal.frame_pos (n := k) (by omega) s.data.toList
          rw [hf] at hfp
          have hfl : (Wal.frames 0 L).length + f.length ≤ 20560 := by have := hfs1.1; rw [hsn, List.length_append] at this; exact this
          have hap := wal_append HHe.out.disk (DK.good_log (N := 30000) (by omega) (DK.optL L) (by rw [DK.optL_get]; omega) (by omega)) DK.logS s (k : Nat) ((Wal.frames 0 L).length : Nat) (by decide) (by omega) (by rw [hf]; omega)
          have hae := DK.append_log 3000 (DK.optL L) (k : Nat) s (by rw [hf]; intro e; rw [e] at hfp; simp at hfp)
          rw [DK.optL_get, hf] at hae
          rw [hae] at hap
          have hos := DK.optL_snoc L s.data.toList
          rw [DK.optL_get, hllen, hf] at hos
          rw [← hos, fits_3000 (by rw [List.length_append]; omega)] at hap
          simp only [if_true] at hap
          unfold DK.logS at hap
          have HAP := Lib.hid hap
          have HF := Lib.hid hf
          have HSN := Lib.hid hsn
          have HNX := Lib.hid hnx
          have hfsz : (str f).size = f.length := rfl
          clear hap hae hos hf hsn hfp hnx hs hsz hkl hL hfs1 hfs
          go_wp2_with fail
          refine HAP.out.mono ?_
          rintro e w3 ⟨rfl, hl⟩
          obtain ⟨S3, h3, ht3, hg3⟩ := HHe.out.next hl
          have H3 := Lib.hid h3
          have hc3 := HCELL.out _ h3.ext
          clear hl h3 ht3 hg3 hcell HHe
          go_wp2_with fail
          refine (frame_at _ s _ f rfl HF.out _ (by omega)).mono ?_
          rintro e w5 ⟨rfl, g5⟩
          have HH5 := Lib.hid (H3.out.more g5)
          clear g5
          go_wp2
          go_roundw
          case rel => exact ⟨k + 1, S3, by omega, by go_num, by rw [HNX.out, HSN.out, List.length_append]; first | rfl | go_num, by rw [HNX.out]; exact HH5⟩
          case measure => simp [intOf]; omega
        · obtain rfl : k = n := by omega
          have htk : (lists l).take k = lists l := List.take_of_length_le (by rw [lists_length, HLN.out]; exact Nat.le_refl _)
          rw [htk] at HHe HFS hllen hF hfs ⊢
          obtain ⟨L, hL⟩ : ∃ L, lists l = L := ⟨_, rfl⟩
          have hLL : L.map str = l := by rw [← hL]; exact lists_str l
          have HLL := Lib.hid hLL
          rw [hL] at HHe HFS hllen hF hfs ⊢
          have d0 := HHe.out.ext.cell HB0.out
          have d1 := HHe.out.ext.cell HB1.out
          have d2 := HHe.out.ext.cell HB2.out
          obtain ⟨f, hf⟩ : ∃ f, Wal.frame (L.length : Nat) last.data.toList = f := ⟨_, rfl⟩
          have hfp := Wal.frame_pos (n := L.length) (by omega) last.data.toList
          have hll0 : last.data.toList.length ≤ 2000 := hlg
          have hfm := Wal.frame_most (n := L.length) (by omega) last.data.toList (by omega)
          rw [hf] at hfp hfm
          obtain ⟨m, hm, hm1⟩ : ∃ m : Nat, wrap64 ((IntKind.u64.wrap x).tmod 2) = (m : Int) ∧ m < 2 := by
            have e0 : IntKind.u64.wrap x = x % 18446744073709551616 := by unfold IntKind.wrap; rw [if_neg (by rintro ⟨⟨⟩, _⟩)]; rfl
            have e1 : 0 ≤ x % 18446744073709551616 := Int.emod_nonneg _ (by omega)
            have e2 : (x % 18446744073709551616).tmod 2 = x % 18446744073709551616 % 2 := Int.tmod_eq_emod_of_nonneg e1
            have e3 : 0 ≤ x % 18446744073709551616 % 2 := Int.emod_nonneg _ (by omega)
            have e4 : x % 18446744073709551616 % 2 < 2 := Int.emod_lt_of_pos _ (by omega)
            rw [e0, e2]
            generalize x % 18446744073709551616 % 2 = x at e3 e4
            refine ⟨x.toNat, ?_, by omega⟩
            unfold wrap64
            omega
          have hfu := disk_fuse HHe.out.disk (m : Int)
          rw [DK.fuse_log _ _ _ (by omega)] at hfu
          have HFU := Lib.hid hfu
          have HM := Lib.hid hm
          have HF := Lib.hid hf
          clear hfu hm hf hfs hL hLL htk
          go_wp2_with fail
          rw [HM.out]
          refine HFU.out.mono ?_
          rintro e w3 ⟨rfl, hl⟩
          obtain ⟨S3, h3, _, _⟩ := HHe.out.next hl
          have HH3 := Lib.hid h3
          clear hl h3 HHe HFU d0
          have hap := wal_append HH3.out.disk (DK.good_fuse (N := 30000) (by omega) (DK.optL L) (m : Int) (by omega) (by rw [DK.optL_get]; omega) (by omega)) DK.logS last (L.length : Nat) ((Wal.frames 0 L).length : Nat) (by decide) (by omega) (by rw [HF.out]; omega)
          have hae := DK.append_torn 3000 (DK.optL L) (m : Int) (by omega) (L.length : Nat) last (by rw [HF.out]; intro e; rw [e] at hfp; simp at hfp) (fits_3000 (by rw [DK.optL_get, HF.out, List.length_append]; omega))
          rw [DK.optL_get, HF.out] at hae
          rw [hae, hllen] at hap
          unfold DK.logS at hap
          have HAP := Lib.hid hap
          clear hap hae
          go_wp2_with fail
          refine HAP.out.mono ?_
          rintro e w4 ⟨rfl, hl⟩
          obtain ⟨S4, h4, _, _⟩ := HH3.out.next hl
          have HH4 := Lib.hid h4
          have d1 := h4.ext.cell HB1.out
          have d2 := h4.ext.cell HB2.out
          clear hl h4 HH3 HAP
          have hcr := disk_crash HH4.out.disk (DK.good_torn (N := 30000) (by omega) (DK.optL L) f (by rw [DK.optL_get]; omega) (by omega) (by omega)) (by omega) y z
          obtain ⟨c', hc1, hc2⟩ := DK.crash_torn 3000 (DK.optL L) f y z
          rw [hc1] at hcr
          rw [← HF.out] at hc2
          have htsc := torn_scan L last.data.toList (by omega) HFS.out.2.2 (by omega) hc2
          rw [HF.out] at htsc
          have HCR := Lib.hid hcr
          have HTS := Lib.hid htsc
          clear hcr hc1 hc2 htsc
          go_wp2_with fail
          refine HCR.out.mono ?_
          rintro e w5 ⟨rfl, hl⟩
          obtain ⟨S5, h5, _, _⟩ := HH4.out.next hl
          have HH5 := Lib.hid h5
          clear hl h5 HH4 HCR
          have hmx : ∀ s ∈ L, s.length ≤ maxLen := fun s hs => by have := HFS.out.2.2 s hs; unfold maxLen; omega
          have HMX := Lib.hid hmx
          clear hmx d1 d2
          rcases HTS.out.2 with hsc | ⟨zz, hsc⟩
          · have HLD := Lib.hid (load_log HH5.out.disk (by have := HTS.out.1; omega) hsc)
            clear hsc
            go_wp2_with fail
            refine HLD.out.mono ?_
            rintro e w7 ⟨v7, rfl, hrow7, g7⟩
            obtain ⟨q7, c7, rfl⟩ := row_slice hrow7
            rw [hllen] at hrow7
            have ht7 := texts_own hrow7 hllen HMX.out
            rw [HLL.out] at ht7
            have HH7 := Lib.hid (HH5.out.more g7)
            have HST := Lib.hid (same_texts _ _ _ _ c7 c _ _ ht7 (HTX.out.ext (H1.out.trans HH7.out.ext)))
            rw [hllen]
            clear hrow7 ht7 g7
            go_wp2_with fail
            refine HST.out.mono ?_
            rintro e w8 ⟨rfl, g8⟩
            have HX8 := Lib.hid ((H1.out.trans HH7.out.ext).trans g8)
            clear g8
            go_wp2_with fail
            refine (wal_awake _).mono ?_
            rintro e w10 ⟨rfl, g10⟩
            go_wp2
            go_ret
            exact ⟨rfl, HX8.out.trans g10⟩
          · have HLD := Lib.hid (load_log HH5.out.disk (by have := HTS.out.1; omega) hsc)
            clear hsc
            have hl1 : (L ++ [last.data.toList]).length = k + 1 := by rw [List.length_append, hllen]; rfl
            go_wp2_with fail
            refine HLD.out.mono ?_
            rintro e w7 ⟨v7, rfl, hrow7, g7⟩
            obtain ⟨q7, c7, rfl⟩ := row_slice hrow7
            rw [hl1] at hrow7
            have ht7 := texts_own hrow7 hl1 (fun s hs => by
              rcases List.mem_append.1 hs with h | h
              · exact HMX.out s h
              · obtain rfl : s = last.data.toList := by simpa using h
                unfold maxLen; omega)
            rw [List.map_append, HLL.out] at ht7
            have hcap7 : k + 1 ≤ c7 := by
              rcases hrow7.2 with ⟨hv, h0⟩ | ⟨g, cap, cur, hv, _, _, hc, _⟩
              · exact absurd h0 (by omega)
              · injection hv with _ _ e3
                omega
            obtain ⟨g, off, rfl, hst7⟩ : ∃ g off, q7 = some ⟨g, off, none⟩ ∧ StrsAt w7 g off (l ++ [last].map (fun s => str s.data.toList)) := by
              rcases ht7.2.2.2 with h | h
              · exact absurd h (by omega)
              · exact h
            have hce := hst7 k (by rw [List.length_append, HLN.out]; exact Nat.lt_succ_self _)
            have hle : (l ++ [last].map (fun s => str s.data.toList))[k]'(by rw [List.length_append, HLN.out]; exact Nat.lt_succ_self _) = last := by
              rw [List.getElem_append_right (by rw [HLN.out]; exact Nat.le_refl _)]
              simp [HLN.out, str]
            rw [hle] at hce
            have htt := ht7.take k (by omega)
            rw [List.take_left' HLN.out] at htt
            have HH7 := Lib.hid (HH5.out.more g7)
            have HST := Lib.hid (same_texts _ _ _ _ c7 c _ _ htt (HTX.out.ext (H1.out.trans HH7.out.ext)))
            have HCE := Lib.hid hce
            rw [hl1]
            clear hrow7 ht7 g7 htt hce hst7 hle
            go_wp2_with fail
            refine HST.out.mono ?_
            rintro e w8 ⟨rfl, g8⟩
            have HX8 := Lib.hid ((H1.out.trans HH7.out.ext).trans g8)
            have hce8 := g8.cell HCE.out
            clear g8
            go_wp2_with fail
            refine (wal_awake _).mono ?_
            rintro e w10 ⟨rfl, g10⟩
            go_wp2
            go_ret
            exact ⟨rfl, HX8.out.trans g10⟩
    · go_wp2_with fail
      refine (wal_awake _).mono ?_
      rintro e w2 ⟨rfl, h2⟩
      go_wp2
      go_ret
      exact ⟨rfl, H1.out.trans h2⟩
end Go.Proofs.Ythkccaifabpleaa
