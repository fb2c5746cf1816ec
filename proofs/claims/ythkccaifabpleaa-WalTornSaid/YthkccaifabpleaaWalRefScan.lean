/- What the document's Scan answers: the same. -/
import Derived.Test.YthkccaifabpleaaWalScan
import Derived.Test.YthkccaifabpleaaRefTake
namespace Go.Proofs.Ythkccaifabpleaa
open Go.RowKit

theorem refTake_at (s : ByteArray) (l : List UInt8) (a b c : Nat) (hl : s.data.toList = l) (h : Count.takeL l = (a, b, c)) (w : World) (hs : s.size ≤ maxLen) :
    Calls Try.prog 25 #[.string s] w fun e w' => e = .returned (.tuple #[.int .i64 (a : Int), .int .i64 (b : Int), .int .i64 (c : Int)]) ∧ Ext w w' := by
  subst hl
  have := refTake_any s w hs
  rw [h] at this
  exact this

theorem refFrame_at (n : Int) (s : ByteArray) (l f : List UInt8) (hl : s.data.toList = l) (hf : Wal.frame n l = f) (w : World) (hs : s.size ≤ 1000000) :
    Calls Try.prog 10 #[.int .i64 n, .string s] w fun e w' => e = .returned (.string (str f)) ∧ Ext w w' := by
  subst hl hf; exact refFrame_any n s w hs

theorem slice_data (b : ByteArray) (i j : Nat) : (b.extract i j).data.toList = (b.data.toList.drop i).take (j - i) := by rw [Lib.extract_data]

/-- The frame of what was taken is what stands there, just when it is whole. -/
theorem frame_there {B : List UInt8} {n k x m : Nat} (hn : n ≤ 1073741824) (h5 : Count.put n = B.take k) (g5 : Count.put x = (B.drop k).take m) (hl : k + m + x + 4 ≤ B.length) :
    (Wal.frame n ((B.drop (k + m)).take x) = B.take (k + m + x + 4)) ↔ Crc.whole (B.take (k + m + x + 4)) := by
  have hlen : ((B.drop (k + m)).take x).length = x := by rw [List.length_take, List.length_drop]; omega
  unfold Wal.frame Crc.whole
  rw [if_pos (by omega), show (n : Int).toNat = n from rfl, h5, hlen, g5, List.length_take, Nat.min_eq_left hl, show k + m + x + 4 - 4 = k + m + x from by omega, List.take_take, Nat.min_eq_left (by omega),
    show B.take k ++ (B.drop k).take m ++ (B.drop (k + m)).take x = B.take (k + m + x) from by
      rw [show k + m + x = k + (m + x) from by omega, List.take_add, List.take_add, ← List.append_assoc, List.drop_drop]]

theorem frame_size {B : List UInt8} {n k x m : Nat} (hn : n ≤ 1073741824) (h5 : Count.put n = B.take k) (g5 : Count.put x = (B.drop k).take m) (hl : k + m + x + 4 ≤ B.length) :
    (Wal.frame n ((B.drop (k + m)).take x)).length = k + m + x + 4 := by
  have hlen : ((B.drop (k + m)).take x).length = x := by rw [List.length_take, List.length_drop]; omega
  unfold Wal.frame
  rw [if_pos (by omega), Wal.seal_length, show (n : Int).toNat = n from rfl, h5, hlen, g5]
  simp only [List.length_append, List.length_take, List.length_drop]; omega

set_option maxRecDepth 100000 in
set_option maxHeartbeats 4000000 in
theorem refScan_any (b : ByteArray) (w : World) (hs : b.size ≤ 1000000) :
    Calls Try.prog 12 #[.string b] w fun e w' => ∃ v, e = .returned (.tuple #[v, .int .i64 ((Wal.scan b.data.toList 0).2 : Int)]) ∧
      w'.ownsRow w.heap.size 9 1 v (Wal.scan b.data.toList 0).1.length (texts (Wal.scan b.data.toList 0).1) ∧ Ext w w' := by
  obtain ⟨i0, hi, hz0, hz1, hz2⟩ := info_parts info_str
  have Hi := Lib.hid hi
  clear hi
  have hbl : b.data.toList.length = b.size := rfl
  go_enter Try.func12, Try.ntmps12
  go_wp2
  go_loopw [4, 5] (fun v gv wr => ∃ (g : Nat) (L : List (List UInt8)), gv = .int .i64 (g : Int) ∧ ScanInv b w v g L wr) (fun _ gv _ => 1000000 - (intOf gv).toNat)
  case atStart => exact ⟨0, [], rfl, World.ownsRow_nil _ _ _ _, Ext.refl w, by omega, by simp, by simp⟩
  case round =>
    obtain ⟨g, L, rfl, hrow, hE, hg, hLg, hscan⟩ := hrel
    obtain ⟨p, c, rfl⟩ := ownsRow_slice hrow
    have hBl : (b.data.toList.drop g).length = b.size - g := by rw [List.length_drop]; rfl
    have HD0 := Lib.hid (drop_data b g)
    have hz0' : (b.extract g b.size).size ≤ maxLen := by rw [ByteArray.size_extract]; unfold maxLen; omega
    have HSC := Lib.hid hscan
    clear hscan
    obtain ⟨a, k, c1, h, hf⟩ := Wal.take_facts (b.data.toList.drop g)
    have HT := Lib.hid h
    by_cases hok : c1 = 0 ∧ a = L.length
    · obtain ⟨rfl, rfl⟩ := hok
      rcases hf with ⟨hc, _, _⟩ | ⟨_, h1, h2, h3, h4, h5⟩
      · exact absurd rfl hc
      obtain ⟨x, m, c2, t, ht⟩ := Wal.take_facts ((b.data.toList.drop g).drop k)
      have HD1 := Lib.hid (show (b.extract (g + k) b.size).data.toList = (b.data.toList.drop g).drop k by rw [drop_data, List.drop_drop])
      have hz1' : (b.extract (g + k) b.size).size ≤ maxLen := by rw [ByteArray.size_extract]; unfold maxLen; omega
      have HU := Lib.hid t
      have hnn : ((L.length : Int) != (L.length : Int)) = false := by simp
      rw [hBl] at h2
      by_cases hbad : c2 ≠ 0 ∨ b.size < g + k + m + x + 4
      · have HN := Lib.hid (Wal.scan_none (Wal.scan1_err2 h t (hbad.imp id (fun hh => by rw [hBl]; omega))))
        have hm : m ≤ b.size ∧ x ≤ 1073741824 ∧ m ≤ 5 := by
          rcases ht with ⟨_, rfl, rfl⟩ | ⟨_, _, e1, e2, e3, _⟩
          · omega
          · rw [List.length_drop, hBl] at e1; omega
        have hcase : ((c2 : Int) != 0) = true ∨ ((c2 : Int) != 0) = false ∧ (b.size : Int) - g - k - m - 4 < (x : Int) := by
          by_cases hc2 : c2 = 0
          · subst hc2; exact .inr ⟨by simp, by omega⟩
          · exact .inl (by rw [bne_iff_ne]; omega)
        clear h t ht hbad h5
        rcases hcase with hc | ⟨hc, hlt⟩
        all_goals
          go_wp2_with fail
          refine (refTake_at _ _ L.length k 0 HD0.out HT.out _ hz0').mono ?_
          rintro e w1 ⟨rfl, g1⟩
          go_wp2_with fail
          refine (refTake_at _ _ x m c2 HD1.out HU.out _ hz1').mono ?_
          rintro e w2 ⟨rfl, g2⟩
          have hrow1 := ownsRow_ext (ownsRow_ext hrow g1) g2
          have hE1 := (hE.trans g1).trans g2
          go_wp2
          go_ret2
          rw [HSC.out, HN.out, List.append_nil, Nat.add_zero]
          exact ⟨_, rfl, hrow1, hE1⟩
      · have hcb : c2 = 0 ∧ g + k + m + x + 4 ≤ b.size := by omega
        obtain ⟨rfl, hle⟩ := hcb
        rcases ht with ⟨hc, _, _⟩ | ⟨_, t1, t2, t3, t4, t5⟩
        · exact absurd rfl hc
        rw [List.length_drop, hBl] at t2
        have hlB : k + m + x + 4 ≤ (b.data.toList.drop g).length := by rw [hBl]; omega
        have hsd : (b.extract (g + k + m) (g + k + m + x)).data.toList = ((b.data.toList.drop g).drop (k + m)).take x := by
          rw [slice_data, List.drop_drop, show g + k + m + x - (g + k + m) = x from by omega, Nat.add_assoc]
        have hfd : (b.extract g (g + k + m + x + 4)) = str ((b.data.toList.drop g).take (k + m + x + 4)) := by
          have : (b.extract g (g + k + m + x + 4)).data.toList = (b.data.toList.drop g).take (k + m + x + 4) := by rw [slice_data]; congr 1; omega
          rw [← this]; rfl
        have hsz : (b.extract (g + k + m) (g + k + m + x)).size ≤ 1000000 := by rw [ByteArray.size_extract]; omega
        have hfs := frame_size h3 h5 t5 hlB
        have hft := frame_there h3 h5 t5 hlB
        obtain ⟨f, hF⟩ : ∃ f, Wal.frame L.length (((b.data.toList.drop g).drop (k + m)).take x) = f := ⟨_, rfl⟩
        rw [hF] at hfs hft
        have hfsz : (str f).size = k + m + x + 4 := hfs
        have HF := Lib.hid hF
        have HSD := Lib.hid hsd
        by_cases hw : Crc.whole ((b.data.toList.drop g).take (k + m + x + 4))
        · have hso := Wal.scan_some (Wal.scan1_some h t hlB hw)
          have hq : (b.extract g (g + k + m + x + 4)).toList = (str f).toList := by rw [hfd, hft.2 hw]
          have d1 : decide ((b.extract g (g + k + m + x + 4)).toList = (str f).toList) = true := decide_eq_true hq
          have d2 : ((b.extract g (g + k + m + x + 4)).toList == (str f).toList) = true := beq_iff_eq.2 hq
          have d3 : ((b.extract g (g + k + m + x + 4)).toList = (str f).toList) = True := eq_true hq
          have d4 : ((b.extract g (g + k + m + x + 4)).toList != (str f).toList) = false := by rw [bne, d2]; rfl
          clear hq
          have HG := Lib.hid (scan_goes HSC.out hso)
          have HX := Lib.hid (show b.extract (g + k + m) (g + k + m + x) = str (((b.data.toList.drop g).drop (k + m)).take x) by rw [← hsd]; rfl)
          clear h t h5 t5 hft hF hsd hfd hw hso hfs
          go_wp2_with fail
          refine (refTake_at _ _ L.length k 0 HD0.out HT.out _ hz0').mono ?_
          rintro e w1 ⟨rfl, g1⟩
          go_wp2_with fail
          refine (refTake_at _ _ x m 0 HD1.out HU.out _ hz1').mono ?_
          rintro e w2 ⟨rfl, g2⟩
          go_wp2_with fail
          refine (refFrame_at _ _ _ f HSD.out HF.out _ hsz).mono ?_
          rintro e w3 ⟨rfl, g3⟩
          have hrow1 := ownsRow_ext (ownsRow_ext (ownsRow_ext hrow g1) g2) g3
          have hE1 := ((hE.trans g1).trans g2).trans g3
          have hL : L.length ≤ 1000000 := by omega
          have b1 : L.length + 1 ≤ maxLen := by unfold maxLen; omega
          have b2 : (L.length + 1) * 16 ≤ 140737488355328 := by omega
          generalize hsv : ((b.data.toList.drop g).drop (k + m)).take x = s at HG HX ⊢
          have b3 : w.heap.size ≤ (w3.alloc (.cells #[.string (b.extract (g + k + m) (g + k + m + x))] 9)).heap.size := by rw [World.size_alloc]; have := hE1.size; omega
          go_wp2_with (at_builtin; refine wpList_append_own _ rfl _ _ 25 rfl w.heap.size 9 i0 (.string ByteArray.empty) 1 16 Try.underlying25 Hi.out hz0 hz1 hz2 rfl (by decide) _ _ _ rfl (hrow1.alloc _) ⟨w3.heap.size, 0, none⟩ 1 1 [.string (b.extract (g + k + m) (g + k + m + x))] rfl rfl (cell_one_new _ _ _) (by simp [Value.oneCell']) b1 b2 b3 ?_; intro v' w4 hown' hgrow _)
          rw [HX.out] at hown'
          have hE2 : Ext w w4 := (hE1.alloc _).grown hgrow (own_block_ge hrow1)
          go_roundw
          case rel => exact ⟨g + (k + m + x + 4), L ++ [s], by go_num, by simpa [texts] using hown', hE2, by omega, by rw [List.length_append]; simp; omega, HG.out⟩
          case measure => simp [intOf]; omega
        · have HN := Lib.hid (Wal.scan_none (Wal.scan1_torn h t hlB hw))
          have hq : ¬ (b.extract g (g + k + m + x + 4)).toList = (str f).toList := by
            rw [hfd, ByteArray.toList_eq, ByteArray.toList_eq]; intro he; apply hw; rw [← hft]; exact he.symm
          have d1 : decide ((b.extract g (g + k + m + x + 4)).toList = (str f).toList) = false := decide_eq_false hq
          have d2 : ((b.extract g (g + k + m + x + 4)).toList == (str f).toList) = false := beq_eq_false_iff_ne.2 hq
          have d3 : ((b.extract g (g + k + m + x + 4)).toList = (str f).toList) = False := eq_false hq
          have d4 : ((b.extract g (g + k + m + x + 4)).toList != (str f).toList) = true := by rw [bne, d2]; rfl
          clear hq
          clear h t h5 t5 hft hF hsd hfd hw hfs
          go_wp2_with fail
          refine (refTake_at _ _ L.length k 0 HD0.out HT.out _ hz0').mono ?_
          rintro e w1 ⟨rfl, g1⟩
          go_wp2_with fail
          refine (refTake_at _ _ x m 0 HD1.out HU.out _ hz1').mono ?_
          rintro e w2 ⟨rfl, g2⟩
          go_wp2_with fail
          refine (refFrame_at _ _ _ f HSD.out HF.out _ hsz).mono ?_
          rintro e w3 ⟨rfl, g3⟩
          have hrow1 := ownsRow_ext (ownsRow_ext (ownsRow_ext hrow g1) g2) g3
          have hE1 := ((hE.trans g1).trans g2).trans g3
          go_wp2
          go_ret2
          rw [HSC.out, HN.out, List.append_nil, Nat.add_zero]
          exact ⟨_, rfl, hrow1, hE1⟩
    · have HN := Lib.hid (Wal.scan_none (Wal.scan1_err (n := L.length) h (by omega)))
      have hcase : ((c1 : Int) != 0) = true ∨ ((c1 : Int) != 0) = false ∧ ((a : Int) != (L.length : Int)) = true := by
        by_cases hc1 : c1 = 0
        · subst hc1; exact .inr ⟨by simp, by rw [bne_iff_ne]; omega⟩
        · exact .inl (by rw [bne_iff_ne]; omega)
      clear h hf hok
      rcases hcase with hc | ⟨hc, ha⟩
      all_goals
        go_wp2_with fail
        refine (refTake_at _ _ a k c1 HD0.out HT.out _ hz0').mono ?_
        rintro e w1 ⟨rfl, g1⟩
        have hrow1 := ownsRow_ext hrow g1
        have hE1 := hE.trans g1
        go_wp2
        go_ret2
        rw [HSC.out, HN.out, List.append_nil, Nat.add_zero]
        exact ⟨_, rfl, hrow1, hE1⟩

end Go.Proofs.Ythkccaifabpleaa
