/- The walk of CrcPieces: bytes that go in piece by piece come to the sum of all. -/
import Derived.Test.YtlkfdiiecmpgeaaCrcAwake
import Derived.Test.YtlkfdiiecmpgeaaStrs
namespace Go.Proofs.Ytlkfdiiecmpgeaa
open Go.RowKit

/-- Texts, one behind the other. -/
def cat (l : List ByteArray) : List UInt8 := (l.map fun s => s.data.toList).flatten
theorem cat_snoc (l : List ByteArray) (s : ByteArray) : cat (l ++ [s]) = cat l ++ s.data.toList := by simp [cat]
theorem take_snoc' (l : List ByteArray) (k : Nat) (h : k < l.length) : l.take (k + 1) = l.take k ++ [l[k]] := by
  rw [List.take_succ_eq_append_getElem h]
theorem cat_take (l : List ByteArray) (k : Nat) (h : k < l.length) : cat (l.take (k + 1)) = cat (l.take k) ++ l[k].data.toList := by
  rw [take_snoc' l k h, cat_snoc]
theorem str_add (x : List UInt8) (s : ByteArray) : str x ++ s = str (x ++ s.data.toList) := by
  apply ByteArray.ext
  simp [ByteArray.data_append, str]
theorem str_size (x : List UInt8) : (str x).size = x.length := by simp [str, ByteArray.size]
theorem str_list (x : List UInt8) : (str x).data.toList = x := by simp [str]
theorem sum_goes (x y : List UInt8) : 4294967295 - Crc.reg (4294967295 - Crc.sum x) y = Crc.sum (x ++ y) := by
  unfold Crc.sum
  have := Crc.reg_lt x (v := 4294967295) (by omega)
  rw [Crc.reg_append, show 4294967295 - (4294967295 - Crc.reg 4294967295 x) = Crc.reg 4294967295 x from by omega]

theorem crcPieces_none (p : Option Addr) (c : Nat) (w : World) :
    Calls Try.prog 4 #[.slice p 0 c] w fun e w' => e = .returned (.bool true) ∧ Ext w w' := by
  go_enter Try.func4, Try.ntmps4
  go_wp2
  refine wp_loop_rounds 1 ?_
  rw [rounds_succ]
  go_wp2_with fail
  refine (crc_awake _).mono ?_
  rintro e w' ⟨rfl, h1⟩
  go_wp2
  go_ret
  exact ⟨rfl, ((Ext.refl _).alloc _).trans h1⟩

def PiecesRel (w : World) (l : List ByteArray) (k : Nat) (wr : World) : Prop :=
  wr.cell? ⟨w.heap.size, 0, none⟩ = some (.int .u32 (Crc.sum (cat (l.take k)) : Nat)) ∧ wr.frozen? ⟨w.heap.size, 0, none⟩ = false ∧ Ext w wr ∧ (cat (l.take k)).length ≤ 300 * k

set_option maxHeartbeats 1000000 in
theorem crcPieces_some (b off n c : Nat) (l : List ByteArray) (w : World) (hn : l.length = n) (hm : n ≤ maxLen) (hl : StrsAt w b off l) (hs : ∀ s ∈ l, s.size ≤ maxLen) :
    Calls Try.prog 4 #[.slice (some ⟨b, off, none⟩) n c] w fun e w' => e = .returned (.bool true) ∧ Ext w w' := by
  have HL : Hid (StrsAt w b off l) := hl
  have HS : Hid (∀ s ∈ l, s.size ≤ maxLen) := hs
  have HN := Lib.hid hn
  clear hl hs hn
  unfold maxLen at hm
  go_enter Try.func4, Try.ntmps4
  go_wp2
  go_loopw [5, 6] (fun a i wr => ∃ k : Nat, k ≤ n ∧ k ≤ 30 ∧ i = .int .i64 k ∧ a = .string (str (cat (l.take k))) ∧ PiecesRel w l k wr) (fun _ i _ => 30 - (intOf i).toNat)
  case atStart => exact ⟨0, by omega, by omega, rfl, rfl, by simp [cat, sum_none], by simp, (Ext.refl _).alloc _, by simp [cat]⟩
  case round =>
    obtain ⟨k, hk, hk30, rfl, rfl, hc, hf, he, hlen⟩ := hrel
    by_cases hlt : k < n ∧ k < 30
    · obtain ⟨h1, h2⟩ := hlt
      have hkl : k < l.length := by rw [HN.out]; exact h1
      have hck := he.cell (HL.out k hkl)
      have hsk := HS.out l[k] (List.getElem_mem hkl)
      have hct := Lib.hid (cat_take l k hkl)
      generalize l[k] = s at hck hsk hct
      have hsk' := hsk
      unfold maxLen at hsk'
      generalize hX : cat (l.take k) = x at hc hlen hct ⊢
      clear hX
      have HC := Lib.hid hc
      have HF := Lib.hid hf
      clear hc hf
      by_cases h300 : 300 < s.size
      · go_wp2_with fail
        refine (crc_awake _).mono ?_
        rintro e w' ⟨rfl, h3⟩
        go_wp2
        go_ret
        exact ⟨rfl, he.trans h3⟩
      · have hbw : b < w.heap.size := by have := lt_of_cell (HL.out k hkl); exact this
        have hx30 : x.length ≤ 9000 := by omega
        have hsx := Crc.sum_lt x
        have hg := Lib.hid (sum_goes x s.data.toList)
        have hne : (⟨w.heap.size, 0, none⟩ : Addr) ≠ ⟨b, off + k, none⟩ := by intro h; injection h with h1; omega
        have hck2 := fun V => (World.cell?_setCell_other wr ⟨w.heap.size, 0, none⟩ ⟨b, off + k, none⟩ V hne).trans hck
        clear hne
        have HK2 := Lib.hid hck2
        clear hck2
        go_wp2_with fail
        refine (crc_write_any ⟨w.heap.size, 0, none⟩ (Crc.sum x) s _ hsx hsk HC.out HF.out).mono ?_
        rintro e w1 ⟨rfl, rfl⟩
        rw [hg.out]
        have hcs := World.cell?_setCell_same wr ⟨w.heap.size, 0, none⟩ (.int .u32 (Crc.sum (x ++ s.data.toList) : Nat)) HC.out
        have hfs : (wr.setCell ⟨w.heap.size, 0, none⟩ (.int .u32 (Crc.sum (x ++ s.data.toList) : Nat))).frozen? ⟨w.heap.size, 0, none⟩ = false := by rw [World.frozen?_setCell]; exact HF.out
        have hes := he.setCell (p := ⟨w.heap.size, 0, none⟩) (Nat.le_refl _) (.int .u32 (Crc.sum (x ++ s.data.toList) : Nat))
        have hck3 := HK2.out (.int .u32 (Crc.sum (x ++ s.data.toList) : Nat))
        generalize wr.setCell ⟨w.heap.size, 0, none⟩ (.int .u32 (Crc.sum (x ++ s.data.toList) : Nat)) = w2 at hcs hfs hes hck3 ⊢
        clear hck
        have HC2 := Lib.hid hcs
        have HF2 := Lib.hid hfs
        clear hcs hfs
        go_wp2_with fail
        refine (crc_write_nil _ _).mono ?_
        rintro e w1 ⟨rfl, rfl⟩
        have hz : (str x).size ≤ 9000 := by rw [str_size]; exact hx30
        have ha := Lib.hid (str_add x s)
        go_wp2_with fail
        rw [ha.out]
        refine (crc_value_any _ _ _ HC2.out).mono ?_
        rintro e w1 ⟨rfl, rfl⟩
        have hy : (str (x ++ s.data.toList)).size ≤ maxLen := by rw [str_size, List.length_append]; unfold maxLen; have : s.data.toList.length = s.size := rfl; omega
        go_wp2_with fail
        refine (ref_of_any _ _ hy).mono ?_
        rintro e w1 ⟨rfl, rfl⟩
        rw [str_list]
        go_wp2_with fail
        refine (crc_value_nil _).mono ?_
        rintro e w1 ⟨rfl, rfl⟩
        clear hy hz
        go_wp2
        go_roundw
        case rel => exact ⟨k + 1, by omega, by omega, by go_num, by rw [hct.out], by rw [hct.out]; exact HC2.out, HF2.out, hes, by rw [hct.out, List.length_append]; have : s.data.toList.length = s.size := rfl; omega⟩
        case measure => simp [intOf]; omega
    · by_cases h1 : k < n
      · have h2 : ¬ k < 30 := by omega
        clear hlt
        go_wp2_with fail
        refine (crc_awake _).mono ?_
        rintro e w' ⟨rfl, h3⟩
        go_wp2
        go_ret
        exact ⟨rfl, he.trans h3⟩
      · clear hlt
        go_wp2_with fail
        refine (crc_awake _).mono ?_
        rintro e w' ⟨rfl, h3⟩
        go_wp2
        go_ret
        exact ⟨rfl, he.trans h3⟩

theorem crcPieces_walk (p : Option Addr) (n c : Nat) (l : List ByteArray) (w : World) (h : Texts w p n l) :
    Calls Try.prog 4 #[.slice p n c] w fun e w' => e = .returned (.bool true) ∧ Ext w w' := by
  obtain ⟨hn, hm, hs, h0 | ⟨b, off, rfl, hl⟩⟩ := h
  · subst h0; exact crcPieces_none p c w
  · exact crcPieces_some b off n c l w hn hm hl hs

end Go.Proofs.Ytlkfdiiecmpgeaa
