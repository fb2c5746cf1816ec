/- The walk of WalAppends. -/
import Derived.Test.YthkccaifabpleaaWalDisk
import Derived.Test.YthkccaifabpleaaIntsOpen
import Derived.Test.YthkccaifabpleaaStrsSized
namespace Go.Proofs.Ythkccaifabpleaa
open Go.RowKit

/-- A disk of which nothing is pending stays what it is while other blocks are written. -/
theorem DiskAt.other {w w' : World} {S : Nat → Prop} {B : Nat} {d : DK.D} {r : Option Nat} (h : DiskAt w S B d) (ht : d.todo = []) (hg : w.grownBy w' r) (hr : ∀ k, r = some k → ¬ S k) : DiskAt w' S B d := by
  obtain ⟨bs, bn, v, h⟩ := h
  have hb : ∀ k, S k → w'.heap[k]? = w.heap[k]? := fun k hk => hg.block k (h.lt k hk) fun e => hr k e.symm hk
  obtain ⟨xs, h1, h2, h3⟩ := h.steps
  refine ⟨bs, bn, v, ⟨(hb B h.sB).trans h.cells, h.safe.block (hb bs h.ss), h.now.block (hb bn h.sn), h.ne, ⟨xs, h1, ⟨h2.1, h2.2.imp id ?_⟩, fun i hi => absurd hi (by rw [ht]; exact Nat.not_lt_zero _)⟩, h.row, h.sB, h.ss, h.sn, h.sv, fun k hk => Nat.lt_of_lt_of_le (h.lt k hk) hg.size⟩⟩
  rintro ⟨g, cap, cur, rfl, k1, k2, k3⟩
  exact ⟨g, cap, cur, rfl, k1, (hb g (h.sv g rfl)).trans k2, k3⟩
theorem Held.other {w0 w w' : World} {S : Nat → Prop} {B : Nat} {d : DK.D} {base : Nat} {t : TypeId} {size n : Nat} {v : Value} {xs : List Value} (h : Held w0 w S B d) (ht : d.todo = []) (hr : w.ownsRow base t size v n xs) (hb : w0.heap.size ≤ base) (hg : w.grownBy w' v.ownBlock) (hn : ∀ k, v.ownBlock = some k → ¬ S k) : Held w0 w' S B d :=
  ⟨h.disk.other ht hg hn, ext_grownV h.ext hr hg hb, h.new⟩
theorem row_turn {w w' : World} {S : Nat → Prop} {base : Nat} {t : TypeId} {size n : Nat} {v : Value} {xs : List Value} (h : w.ownsRow base t size v n xs) (ht : Turn S w w') (hn : ∀ k, v.ownBlock = some k → ¬ S k) : w'.ownsRow base t size v n xs := by
  refine ⟨h.1, h.2.imp id ?_⟩
  rintro ⟨g, cap, cur, rfl, k1, k2, k3⟩
  exact ⟨g, cap, cur, rfl, k1, (ht.block g (Array.getElem?_eq_some_iff.1 k2).1 (hn g rfl)).trans k2, k3⟩
theorem own_lt {w : World} {base : Nat} {t : TypeId} {size n : Nat} {v : Value} {xs : List Value} (h : w.ownsRow base t size v n xs) : ∀ k, v.ownBlock = some k → k < w.heap.size := by
  intro k e
  rcases h.2 with ⟨rfl, _⟩ | ⟨g, cap, cur, rfl, k1, k2, _⟩
  · cases e
  · have e : g = k := by simpa [Value.ownBlock] using e
    subst e
    exact (Array.getElem?_eq_some_iff.1 k2).1
/-- Where nothing that was there has come in, a row stays out. -/
theorem out_grew {w : World} {S S' : Nat → Prop} {base : Nat} {t : TypeId} {size n : Nat} {v : Value} {xs : List Value} (h : w.ownsRow base t size v n xs) (hg : Grew w S S') (hn : ∀ k, v.ownBlock = some k → ¬ S k) : ∀ k, v.ownBlock = some k → ¬ S' k := fun k e hs => by
  rcases hg k hs with h1 | h1
  · exact hn k e h1
  · have := own_lt h k e; omega

theorem flatten_sub {L M : List (List UInt8)} (h : L.Sublist M) : L.flatten.length ≤ M.flatten.length := by
  induction h with
  | slnil => exact Nat.le_refl _
  | cons a _ ih => rw [List.flatten_cons, List.length_append]; omega
  | cons_cons a _ ih => rw [List.flatten_cons, List.flatten_cons, List.length_append, List.length_append]; omega
theorem frames_sub {l : List ByteArray} (hS : Small l) {L : List (List UInt8)} (h : L.Sublist (lists l)) : (Wal.frames 0 L).length ≤ 20560 ∧ L.length ≤ 40 ∧ ∀ s ∈ L, s.length ≤ 20000 := by
  have h1 := flatten_sub h
  have h2 := h.length_le
  rw [lists_length] at h2
  have h3 := hS.1
  have h4 := hS.2
  have h6 : (lists l).flatten.length ≤ 20000 := h4
  have h5 : ∀ s ∈ L, s.length ≤ 20000 := fun s hs => by have := mem_flatten_len hs; omega
  have h7 := Wal.frames_most L 0 (by omega) (fun s hs => by have := h5 s hs; omega)
  exact ⟨by omega, by omega, h5⟩
theorem scan_all {L : List (List UInt8)} (hl : L.length ≤ 1000) (hs : ∀ s ∈ L, s.length ≤ 20000) : Wal.scan (Wal.frames 0 L) 0 = (L, (Wal.frames 0 L).length) := by
  have := Wal.scan_cut L L.length (Wal.frames 0 L).length (by omega) (fun s h => by have := hs s h; omega) (Nat.le_refl _) (by rw [List.take_length]; exact Nat.le_refl _) (.inl rfl)
  rw [List.take_length, List.take_length] at this
  exact this

theorem texts_snoc (L : List (List UInt8)) (s : ByteArray) : texts L ++ [.string s] = texts (L ++ [s.data.toList]) := by
  unfold texts
  rw [List.map_append]
  rfl

set_option maxRecDepth 100000 in
set_option maxHeartbeats 1000000 in
theorem walAppends_walk (p : Option Addr) (n c : Nat) (l : List ByteArray) (blocks x y : Int) (w : World) (hx : Texts w p n l) (hz : ∀ s ∈ l, s.size ≤ 140737488351232) :
    Calls Try.prog 6 #[.slice p n c, .int .i64 blocks, .agg #[.int .i64 x, .int .i64 y]] w fun e w' => e = .returned (.bool true) ∧ Ext w w' := by
  obtain ⟨i0, hi, hz0, hz1, hz2⟩ := info_parts info_str
  have Hi := Lib.hid hi
  have x1 := (Ext.refl w).alloc (.cells #[.int .i64 x, .int .i64 y] 33)
  have cb0 : (w.alloc (.cells #[.int .i64 x, .int .i64 y] 33)).cell? ⟨w.heap.size, 0, none⟩ = some (.int .i64 x) := alloc_cell w _ _ 0
  have cb1 : (w.alloc (.cells #[.int .i64 x, .int .i64 y] 33)).cell? ⟨w.heap.size, 1, none⟩ = some (.int .i64 y) := alloc_cell w _ _ 1
  have HC0 := Lib.hid cb0
  have HC1 := Lib.hid cb1
  have hgr := great_any p n c l _ (hx.ext x1) hz
  have HGR := Lib.hid hgr
  have HX1 := Lib.hid x1
  obtain ⟨y1, y2, y3, y4⟩ := hx
  have HX : Hid (n = 0 ∨ ∃ b off, p = some ⟨b, off, none⟩ ∧ StrsAt w b off l) := y4
  have HLN := Lib.hid y1
  have hn63 : n ≤ 9223372036854775807 := y2
  clear hi cb0 cb1 hgr x1 y1 y2 y3 y4 hz
  go_enter Try.func6, Try.ntmps6
  go_wp2_with fail
  refine HGR.out.mono ?_
  rintro e w1 ⟨r, rfl, h1, hsm⟩
  cases r with
  | true =>
    go_wp2_with fail
    refine (wal_awake _).mono ?_
    rintro e w2 ⟨rfl, h2⟩
    go_wp2
    go_ret
    exact ⟨rfl, (HX1.out.trans h1).trans h2⟩
  | false =>
    have HS := Lib.hid (hsm rfl)
    have hn40 : n ≤ 40 := by have := HS.out.1; have := HLN.out; omega
    have H1 := Lib.hid (HX1.out.trans h1)
    have HB0 := Lib.hid (h1.cell HC0.out)
    have HB1 := Lib.hid (h1.cell HC1.out)
    obtain ⟨m, hm, hm1⟩ : ∃ m : Nat, wrap64 ((IntKind.u64.wrap blocks).tmod 100) = (m : Int) ∧ m < 100 := by
      have e0 : IntKind.u64.wrap blocks = blocks % 18446744073709551616 := by unfold IntKind.wrap; rw [if_neg (by rintro ⟨⟨⟩, _⟩)]; rfl
      have e1 : 0 ≤ blocks % 18446744073709551616 := Int.emod_nonneg _ (by omega)
      have e2 : (blocks % 18446744073709551616).tmod 100 = blocks % 18446744073709551616 % 100 := Int.tmod_eq_emod_of_nonneg e1
      have e3 : 0 ≤ blocks % 18446744073709551616 % 100 := Int.emod_nonneg _ (by omega)
      have e4 : blocks % 18446744073709551616 % 100 < 100 := Int.emod_lt_of_pos _ (by omega)
      rw [e0, e2]
      generalize blocks % 18446744073709551616 % 100 = x at e3 e4
      refine ⟨x.toNat, ?_, by omega⟩
      unfold wrap64
      omega
    have HN := Lib.hid (disk_new (m : Int) (by omega) (by omega) w1)
    clear hsm h1 hn63
    go_wp2_with fail
    refine HN.out.mono ?_
    rintro e w2 ⟨B, S0, rfl, hD, hx2, hS⟩
    have hst0 : DK.new (m : Int) = DK.stD m (DK.optL []) := by unfold DK.optL; rw [if_pos rfl]; rfl
    rw [hst0] at hD
    have H2 : Hid (Held w1 w2 S0 B (DK.stD m (DK.optL []))) := Lib.hid ⟨hD, hx2, hS⟩
    clear hD hx2 hS hst0 HN
    go_wp2
    go_loopw [8, 9, 10] (fun v at_ i W => ∃ (k : Nat) (L : List (List UInt8)) (S : Nat → Prop), k ≤ n ∧ i = .int .i64 k ∧ at_ = .int .i64 (Wal.frames 0 L).length ∧ Hid (L.Sublist ((lists l).take k)) ∧ Hid (W.ownsRow w1.heap.size 9 1 v L.length (texts L)) ∧ Hid (Held w1 W S B (DK.stD m (DK.optL L))) ∧ Hid (∀ g, v.ownBlock = some g → ¬ S g)) (fun _ _ i _ => n - (intOf i).toNat)
    case atStart => exact ⟨0, [], S0, by omega, rfl, by simp [Wal.frames], Lib.hid (List.nil_sublist _), Lib.hid (World.ownsRow_nil _ _ _ _), H2, Lib.hid (fun g e => by cases e)⟩
    case round =>
      clear H2
      obtain ⟨k, L, S, hk, rfl, rfl, HSub, HRow, HHe, HOut⟩ := hrel
      obtain ⟨pw, cw, rfl⟩ := row_slice HRow.out
      have hfs := frames_sub HS.out (HSub.out.trans (List.take_sublist _ _))
      have HFS := Lib.hid hfs
      have hL40 := hfs.2.1
      have hF := hfs.1
      clear hfs
      by_cases hlt : k < n
      · have hlk : k < l.length := by rw [HLN.out]; exact hlt
        obtain ⟨b, off, rfl, hs⟩ : ∃ b off, p = some ⟨b, off, none⟩ ∧ StrsAt w b off l := by
          rcases HX.out with h | h
          · omega
          · exact h
        have HCELL := Lib.hid (fun (W : World) (hW : Ext w1 W) => (H1.out.trans hW).cell (hs k hlk))
        have hcell := HCELL.out _ HHe.out.ext
        have hsz := small_each HS.out l[k].data.toList (List.mem_map.2 ⟨l[k], List.getElem_mem hlk, rfl⟩)
        have hkl : k < (lists l).length := by rw [lists_length]; exact hlk
        have hnx : (lists l).take (k + 1) = (lists l).take k ++ [l[k].data.toList] := by
          rw [List.take_succ_eq_append_getElem hkl]
          simp [lists]
        have hsub1 : (L ++ [l[k].data.toList]).Sublist ((lists l).take (k + 1)) := by rw [hnx]; exact HSub.out.append (List.Sublist.refl _)
        have hsub0 : L.Sublist ((lists l).take (k + 1)) := by rw [hnx]; exact HSub.out.trans (List.sublist_append_left _ _)
        have hfs1 := frames_sub HS.out (hsub1.trans (List.take_sublist _ _))
        generalize l[k] = s at *
        have hss : s.size ≤ 20000 := hsz
        obtain ⟨f, hf⟩ : ∃ f, Wal.frame (L.length : Nat) s.data.toList = f := ⟨_, rfl⟩
        have hsn : Wal.frames 0 (L ++ [s.data.toList]) = Wal.frames 0 L ++ f := by rw [Wal.frames_snoc, Nat.zero_add, hf]
        have hfp := Wal.frame_pos (n := L.length) (by omega) s.data.toList
        rw [hf] at hfp
        have hfl : (Wal.frames 0 L).length + f.length ≤ 20560 := by have := hfs1.1; rw [hsn, List.length_append] at this; exact this
        have hap := wal_append HHe.out.disk (DK.good_log (N := 30000) (by omega) (DK.optL L) (by rw [DK.optL_get]; omega) (by omega)) DK.logS s (L.length : Nat) ((Wal.frames 0 L).length : Nat) (by decide) (by omega) (by rw [hf]; omega)
        have hae := DK.append_log m (DK.optL L) (L.length : Nat) s (by rw [hf]; intro e; rw [e] at hfp; simp at hfp)
        rw [DK.optL_get, hf] at hae
        rw [hae] at hap
        have hos := DK.optL_snoc L s.data.toList
        rw [DK.optL_get, hf] at hos
        rw [← hos] at hap
        unfold DK.logS at hap
        obtain ⟨ft, hft⟩ : ∃ ft, DK.fitsL m (Wal.frames 0 L ++ f) = ft := ⟨_, rfl⟩
        rw [hft] at hap
        have HAP := Lib.hid hap
        have HF := Lib.hid hf
        have HSN := Lib.hid hsn
        have HS1 := Lib.hid hsub1
        have HS0 := Lib.hid hsub0
        have HFS1 := Lib.hid hfs1
        clear hap hae hos hf hsn hfp hnx hsub1 hsub0 hfs1 hs hft hsz hkl
        go_wp2_with fail
        refine HAP.out.mono ?_
        rintro e w3 ⟨rfl, hl⟩
        cases ft with
        | true =>
          simp only [if_true] at hl
          obtain ⟨S3, h3, ht3, hg3⟩ := HHe.out.next hl
          have hr3 := row_turn HRow.out ht3 HOut.out
          have ho3 := out_grew HRow.out hg3 HOut.out
          have H3 := Lib.hid h3
          have HR3 := Lib.hid (hr3.alloc (.cells #[.string s] 9))
          have HO3 := Lib.hid ho3
          have hc3 := HCELL.out _ h3.ext
          have hsz3 := h3.ext.size
          have hbb : w1.heap.size ≤ (w3.alloc (.cells #[.string s] 9)).heap.size := by rw [World.size_alloc]; omega
          have b1 : L.length + 1 ≤ maxLen := by unfold maxLen; omega
          have b2 : (L.length + 1) * 16 ≤ 140737488355328 := by omega
          clear hl h3 ht3 hg3 hr3 ho3 hcell HHe HRow HOut
          go_wp2_with (at_builtin; refine wpList_append_lies _ rfl _ _ 25 rfl w1.heap.size 9 i0 (.string ByteArray.empty) 1 16 Try.underlying25 Hi.out hz0 hz1 hz2 rfl (by decide) _ L.length _ rfl HR3.out ⟨w3.heap.size, 0, none⟩ 1 1 [.string s] rfl rfl (cell_one_new _ _ _) (by intro u hu; simp at hu; subst hu; rfl) (by decide) b1 b2 hbb _ rfl ?_; intro g cap w4 hown hgrow hat hgl; have HW4 := Lib.hid hown; have HG4 := Lib.hid hgrow; have HA4 := Lib.hid hat; have hc4 := HCELL.out _ ((H3.out.more ((Ext.refl _).alloc (.cells #[.string s] 9))).other rfl HR3.out (Nat.le_refl _) hgrow HO3.out).ext; clear hown hgrow hat)
          refine (frame_at _ s _ f rfl HF.out _ (by omega)).mono ?_
          rintro e w5 ⟨rfl, g5⟩
          have h4 := (H3.out.more ((Ext.refl _).alloc (.cells #[.string s] 9))).other rfl HR3.out (Nat.le_refl _) HG4.out HO3.out
          have HH5 := Lib.hid (h4.more g5)
          have hrow5 := row_to HW4.out g5
          rw [texts_snoc] at hrow5
          have HR5 := Lib.hid hrow5
          have hout5 : ∀ g', (Value.slice (some ⟨g, 0, none⟩) (L.length + 1) cap).ownBlock = some g' → ¬ S3 g' := fun g' e hs => by
            have e : g = g' := by simpa [Value.ownBlock] using e
            subst e
            rcases HA4.out with h5 | h5
            · exact HO3.out _ h5 hs
            · obtain ⟨_, _, _, hi3⟩ := H3.out.disk
              have := hi3.lt _ hs
              have h6 : (w3.alloc (.cells #[.string s] 9)).heap.size = w3.heap.size + 1 := World.size_alloc _ _
              omega
          have HO5 := Lib.hid hout5
          have hlen5 : (L ++ [s.data.toList]).length = L.length + 1 := by rw [List.length_append]; rfl
          have HL5 := Lib.hid hlen5
          have hfsz : (str f).size = f.length := rfl
          clear h4 g5 hrow5 hout5 hlen5 hc4
          have hld := wal_load HH5.out.disk rfl DK.logS (by decide) (by show (DK.get (DK.fileB (DK.optL (L ++ [s.data.toList]))) DK.logS).size ≤ _; rw [DK.get_log, DK.optL_get]; exact (show (Wal.frames 0 (L ++ [s.data.toList])).length ≤ 1000000 by have := HFS1.out.1; omega)) (fun hno => by
            have h1 : DK.has (DK.fileB (DK.optL (L ++ [s.data.toList]))) DK.logS = false := hno
            show DK.get (DK.fileB (DK.optL (L ++ [s.data.toList]))) DK.logS = _
            rw [DK.has_log] at h1
            rw [DK.get_log]
            cases hc : DK.optL (L ++ [s.data.toList]) with
            | none => rfl
            | some z => rw [hc] at h1; cases h1)
          have hgl : (DK.get (DK.stD m (DK.optL (L ++ [s.data.toList]))).now DK.logS).data.toList = Wal.frames 0 (L ++ [s.data.toList]) := by
            show (DK.get (DK.fileB (DK.optL (L ++ [s.data.toList]))) DK.logS).data.toList = _
            rw [DK.get_log, DK.optL_get]
            rfl
          rw [hgl, scan_all (by have := HFS1.out.2.1; omega) HFS1.out.2.2] at hld
          simp only at hld
          rw [HSN.out, List.length_append] at hld
          unfold DK.logS at hld
          have HLD := Lib.hid hld
          clear hld hgl
          go_wp2_with fail
          refine HLD.out.mono ?_
          rintro e w7 ⟨v7, rfl, hrow7, g7⟩
          obtain ⟨q7, c7, rfl⟩ := row_slice hrow7
          have hmx : ∀ z ∈ (L ++ [s.data.toList]), z.length ≤ maxLen := fun z hs => by have := HFS1.out.2.2 z hs; unfold maxLen; omega
          have ht7 := texts_own hrow7 rfl hmx
          have HH7 := Lib.hid (HH5.out.more g7)
          have HR7 := Lib.hid (row_to HR5.out g7)
          have ht8 := texts_own HR7.out HL5.out hmx
          have hst := same_texts _ _ _ _ c7 cap _ _ ht7 ht8
          rw [HL5.out] at hst
          have HST := Lib.hid hst
          clear hrow7 ht7 ht8 hst g7 hmx
          go_wp2_with fail
          refine HST.out.mono ?_
          rintro e w8 ⟨rfl, g8⟩
          have HH8 := Lib.hid (HH7.out.more g8)
          have HR8 := Lib.hid (row_to HR7.out g8)
          clear g8
          go_wp2
          go_roundw
          case rel => exact ⟨k + 1, L ++ [s.data.toList], S3, by omega, by go_num, by rw [HSN.out, List.length_append]; first | rfl | go_num, HS1, Lib.hid (by rw [HL5.out]; exact HR8.out), HH8, HO5⟩
          case measure => simp [intOf]; omega
        | false =>
          simp only [Bool.false_eq_true, if_false] at hl
          obtain ⟨S3, h3, ht3, hg3⟩ := HHe.out.next hl
          have H3 := Lib.hid h3
          have HR3 := Lib.hid (row_turn HRow.out ht3 HOut.out)
          have HO3 := Lib.hid (out_grew HRow.out hg3 HOut.out)
          clear hl h3 ht3 hg3 hcell HHe HRow HOut
          have hld := wal_load H3.out.disk rfl DK.logS (by decide) (by show (DK.get (DK.fileB (DK.optL L)) DK.logS).size ≤ _; rw [DK.get_log, DK.optL_get]; exact (show (Wal.frames 0 L).length ≤ 1000000 by have := HFS.out.1; omega)) (fun hno => by
            have h1 : DK.has (DK.fileB (DK.optL L)) DK.logS = false := hno
            show DK.get (DK.fileB (DK.optL L)) DK.logS = _
            rw [DK.has_log] at h1
            rw [DK.get_log]
            cases hc : DK.optL L with
            | none => rfl
            | some z => rw [hc] at h1; cases h1)
          have hgl : (DK.get (DK.stD m (DK.optL L)).now DK.logS).data.toList = Wal.frames 0 L := by
            show (DK.get (DK.fileB (DK.optL L)) DK.logS).data.toList = _
            rw [DK.get_log, DK.optL_get]
            rfl
          rw [hgl, scan_all (by have := HFS.out.2.1; omega) HFS.out.2.2] at hld
          simp only at hld
          unfold DK.logS at hld
          have HLD := Lib.hid hld
          clear hld hgl
          go_wp2_with fail
          refine HLD.out.mono ?_
          rintro e w7 ⟨v7, rfl, hrow7, g7⟩
          obtain ⟨q7, c7, rfl⟩ := row_slice hrow7
          have hmx : ∀ s ∈ L, s.length ≤ maxLen := fun s hs => by have := HFS.out.2.2 s hs; unfold maxLen; omega
          have ht7 := texts_own hrow7 rfl hmx
          have HH7 := Lib.hid (H3.out.more g7)
          have HR7 := Lib.hid (row_to HR3.out g7)
          have ht8 := texts_own HR7.out rfl hmx
          have hst := same_texts _ _ _ _ c7 cw _ _ ht7 ht8
          have HST := Lib.hid hst
          clear hrow7 ht7 ht8 hst g7 hmx
          go_wp2_with fail
          refine HST.out.mono ?_
          rintro e w8 ⟨rfl, g8⟩
          have HH8 := Lib.hid (HH7.out.more g8)
          have HR8 := Lib.hid (row_to HR7.out g8)
          clear g8
          go_wp2
          go_roundw
          case rel => exact ⟨k + 1, L, S3, by omega, by go_num, rfl, HS0, HR8, HH8, HO3⟩
          case measure => simp [intOf]; omega
      · obtain rfl : k = n := by omega
        have d0 := HHe.out.ext.cell HB0.out
        have d1 := HHe.out.ext.cell HB1.out
        have hcr := disk_crash HHe.out.disk (DK.good_log (N := 30000) (by omega) (DK.optL L) (by rw [DK.optL_get]; omega) (by omega)) (by omega) x y
        rw [DK.crash_log] at hcr
        have HCR := Lib.hid hcr
        clear hcr
        go_wp2_with fail
        refine HCR.out.mono ?_
        rintro e w3 ⟨rfl, hl⟩
        obtain ⟨S3, h3, ht3, hg3⟩ := HHe.out.next hl
        have H3 := Lib.hid h3
        have HR3 := Lib.hid (row_turn HRow.out ht3 HOut.out)
        clear hl h3 ht3 hg3 d0 d1 HHe HRow HOut
        have hld := wal_load H3.out.disk rfl DK.logS (by decide) (by show (DK.get (DK.fileB (DK.optL L)) DK.logS).size ≤ _; rw [DK.get_log, DK.optL_get]; exact (show (Wal.frames 0 L).length ≤ 1000000 by have := HFS.out.1; omega)) (fun hno => by
          have h1 : DK.has (DK.fileB (DK.optL L)) DK.logS = false := hno
          show DK.get (DK.fileB (DK.optL L)) DK.logS = _
          rw [DK.has_log] at h1
          rw [DK.get_log]
          cases hc : DK.optL L with
          | none => rfl
          | some z => rw [hc] at h1; cases h1)
        have hgl : (DK.get (DK.stD m (DK.optL L)).now DK.logS).data.toList = Wal.frames 0 L := by
          show (DK.get (DK.fileB (DK.optL L)) DK.logS).data.toList = _
          rw [DK.get_log, DK.optL_get]
          rfl
        rw [hgl, scan_all (by have := HFS.out.2.1; omega) HFS.out.2.2] at hld
        simp only at hld
        unfold DK.logS at hld
        have HLD := Lib.hid hld
        clear hld hgl
        go_wp2_with fail
        refine HLD.out.mono ?_
        rintro e w7 ⟨v7, rfl, hrow7, g7⟩
        obtain ⟨q7, c7, rfl⟩ := row_slice hrow7
        have hmx : ∀ s ∈ L, s.length ≤ maxLen := fun s hs => by have := HFS.out.2.2 s hs; unfold maxLen; omega
        have ht7 := texts_own hrow7 rfl hmx
        have HH7 := Lib.hid (H3.out.more g7)
        have HR7 := Lib.hid (row_to HR3.out g7)
        have ht8 := texts_own HR7.out rfl hmx
        have HST := Lib.hid (same_texts _ _ _ _ c7 cw _ _ ht7 ht8)
        clear hrow7 ht7 ht8 g7 hmx
        go_wp2_with fail
        refine HST.out.mono ?_
        rintro e w8 ⟨rfl, g8⟩
        have HH8 := Lib.hid (HH7.out.more g8)
        clear g8
        have hfe : Wal.frame (-1) (⟨#[]⟩ : ByteArray).data.toList = [] := by unfold Wal.frame; rw [if_neg (by omega)]
        have hap := wal_append HH8.out.disk (DK.good_log (N := 30000) (by omega) (DK.optL L) (by rw [DK.optL_get]; omega) (by omega)) DK.logS ⟨#[]⟩ (-1) ((Wal.frames 0 L).length : Nat) (by decide) (by decide) (by rw [hfe]; decide)
        have hae : DK.append (DK.stD m (DK.optL L)) DK.logS (-1) ((Wal.frames 0 L).length : Nat) ⟨#[]⟩ = (DK.stD m (DK.optL L), 2) := by unfold DK.append; rw [if_pos hfe]
        rw [hae] at hap
        unfold DK.logS at hap
        have HAP := Lib.hid hap
        clear hap hae hfe
        go_wp2_with fail
        refine HAP.out.mono ?_
        rintro e w9 ⟨rfl, hl⟩
        obtain ⟨S9, h9, _, _⟩ := HH8.out.next hl
        have HX9 := Lib.hid (H1.out.trans h9.ext)
        clear hl h9
        go_wp2_with fail
        refine (wal_awake _).mono ?_
        rintro e w10 ⟨rfl, g10⟩
        go_wp2
        go_ret
        exact ⟨rfl, HX9.out.trans g10⟩
end Go.Proofs.Ythkccaifabpleaa
