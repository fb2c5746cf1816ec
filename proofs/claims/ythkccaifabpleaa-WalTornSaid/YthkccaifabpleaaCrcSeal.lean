/- What Seal and Open answer, the program's and the document's. -/
import Derived.Test.YthkccaifabpleaaCrcOf
import Derived.Test.YthkccaifabpleaaMem
import Derived.Lib.Strings
namespace Go.Proofs.Ythkccaifabpleaa
open Go.RowKit

theorem le4_nums (x : Nat) : (Crc.le4 x).map (fun b => (b.toNat : Int)) = [(x : Int) % 256, (x : Int) / 256 % 256, (x : Int) / 65536 % 256, (x : Int) / 16777216 % 256] := by
  simp [Crc.le4, UInt8.toNat_ofNat']

/-- Four cells of bytes, made a text. -/
theorem conv4 (x : Nat) (hx : x < 4294967296) (w : World) (a b c d : Int) (T : TypeId) (cap : Nat) (hT : T = 5)
    (ha : a = (x : Int) % 256) (hb : b = (x : Int) / 256 % 256) (hc : c = (x : Int) / 65536 % 256) (hd : d = (x : Int) / 16777216) :
    (convert 67 9 (.slice (some ⟨w.heap.size, 0, none⟩) 4 cap)).run Try.prog (w.alloc (.cells #[.int .u8 a, .int .u8 b, .int .u8 c, .int .u8 d] T)) =
      .ok (.string ⟨(Crc.le4 x).toArray⟩) (w.alloc (.cells #[.int .u8 a, .int .u8 b, .int .u8 c, .int .u8 d] T)) := by
  subst hT
  refine run_convert_bytes_back _ _ _ 5 _ cap (Crc.le4 x) Try.underlying67 Try.underlying5 Try.underlying9 ?_
  intro j hj
  have h4 : (Crc.le4 x).length = 4 := rfl
  have hp : (⟨w.heap.size, 0, none⟩ : Addr).add j = ⟨w.heap.size, j, none⟩ := by unfold Addr.add; split <;> simp_all
  rw [hp, World.cell?_alloc_new]
  rcases (show j = 0 ∨ j = 1 ∨ j = 2 ∨ j = 3 by omega) with rfl | rfl | rfl | rfl
  · simp [Crc.le4, ha]
  · simp [Crc.le4, hb]
  · simp [Crc.le4, hc]
  · simp [Crc.le4, hd]; omega

theorem seal_bytes (t : ByteArray) (x : Nat) (h : Crc.sum t.data.toList = x) : t ++ (⟨(Crc.le4 x).toArray⟩ : ByteArray) = ⟨(Crc.seal' t.data.toList).toArray⟩ := by
  apply ByteArray.ext
  rw [ByteArray.data_append]
  simp [Crc.seal', h]

theorem le4_size (x : Nat) : (⟨(Crc.le4 x).toArray⟩ : ByteArray).size = 4 := rfl

set_option maxHeartbeats 400000 in
theorem crc_seal_any (t : ByteArray) (w : World) (hs : t.size ≤ 140737488351232) :
    Calls Try.prog 21 #[.string t] w fun e w' => e = .returned (.string ⟨(Crc.seal' t.data.toList).toArray⟩) ∧ Ext w w' := by
  have hlt := Crc.sum_lt t.data.toList
  go_enter Try.func21, Try.ntmps21
  go_wp2_with fail
  refine (crc_of_any t _ (by unfold maxLen; omega)).mono ?_
  rintro e w' ⟨rfl, rfl⟩
  generalize hX : Crc.sum t.data.toList = x at hlt ⊢
  have HX := Lib.hid hX
  clear hX
  have hcv := conv4 x hlt (w.alloc (.cells #[.int .u32 x] 81)) _ _ _ _ 5 4 rfl rfl rfl rfl rfl
  rw [World.size_alloc] at hcv
  have h4 := le4_size x
  generalize hL : (⟨(Crc.le4 x).toArray⟩ : ByteArray) = l at hcv h4
  have HL := Lib.hid hL
  clear hL
  have h4' : (l.size : Int) ≤ 4 := by omega
  have HF := Lib.hid h4
  clear h4
  go_wp2
  go_returns
  exact ⟨by rw [← seal_bytes t x HX.out, HL.out]; rfl, ((Ext.refl _).alloc _).alloc _⟩

set_option maxHeartbeats 400000 in
theorem ref_seal_any (t : ByteArray) (w : World) (hs : t.size ≤ 140737488351232) :
    Calls Try.prog 22 #[.string t] w fun e w' => e = .returned (.string ⟨(Crc.seal' t.data.toList).toArray⟩) ∧ Ext w w' := by
  have hlt := Crc.sum_lt t.data.toList
  go_enter Try.func22, Try.ntmps22
  go_wp2_with fail
  refine (ref_of_any t _ (by unfold maxLen; omega)).mono ?_
  rintro e w' ⟨rfl, rfl⟩
  generalize hX : Crc.sum t.data.toList = x at hlt ⊢
  have HX := Lib.hid hX
  clear hX
  have hcv := conv4 x hlt w _ _ _ _ 5 4 rfl rfl rfl rfl rfl
  have h4 := le4_size x
  generalize hL : (⟨(Crc.le4 x).toArray⟩ : ByteArray) = l at hcv h4
  have HL := Lib.hid hL
  clear hL
  have h4' : (l.size : Int) ≤ 4 := by omega
  have HF := Lib.hid h4
  clear h4
  go_wp2
  go_returns
  exact ⟨by rw [← seal_bytes t x HX.out, HL.out]; rfl, (Ext.refl _).alloc _⟩

/-- A text and its bytes. -/
def str (l : List UInt8) : ByteArray := ⟨l.toArray⟩
/-- What Open answers. -/
def openL (l : List UInt8) : List UInt8 × Bool :=
  if l.length < 4 then ([], false) else if Crc.seal' (l.take (l.length - 4)) = l then (l.take (l.length - 4), true) else ([], false)

theorem str_data (u : ByteArray) : str u.data.toList = u := rfl

theorem take_data (t u : ByteArray) (HU : t.extract 0 (t.size - 4) = u) : t.data.toList.take (t.data.toList.length - 4) = u.data.toList := by
  rw [← HU, Lib.extract_data]; rfl

theorem openL_yes (t u : ByteArray) (h4 : 4 ≤ t.size) (HU : t.extract 0 (t.size - 4) = u) (h : (!Crc.seal' u.data.toList == t.toList) = false) :
    openL t.data.toList = (u.data.toList, true) := by
  unfold openL
  have hl : t.data.toList.length = t.size := rfl
  rw [if_neg (by omega), take_data t u HU, if_pos (by have := ByteArray.toList_eq t; rw [← this]; simpa using h)]

theorem openL_no (t u : ByteArray) (HU : t.extract 0 (t.size - 4) = u) (h : (!Crc.seal' u.data.toList == t.toList) = true) :
    openL t.data.toList = ([], false) := by
  unfold openL
  split
  · rfl
  · rw [take_data t u HU, if_neg (by have := ByteArray.toList_eq t; rw [← this]; simpa using h)]

theorem openL_short (t : ByteArray) (hs : t.size < 4) : openL t.data.toList = ([], false) := by
  unfold openL
  rw [if_pos (by have hl : t.data.toList.length = t.size := rfl; omega)]

theorem crc_open_short (t : ByteArray) (w : World) (hs : t.size < 4) :
    Calls Try.prog 35 #[.string t] w fun e w' => e = .returned (.tuple #[.string (str []), .bool false]) ∧ Ext w w' := by
  go_enter Try.func35, Try.ntmps35
  go_wp2
  go_ret2
  exact ⟨rfl, Ext.refl _⟩

set_option maxHeartbeats 400000 in
theorem crc_open_long (t : ByteArray) (w : World) (h4 : 4 ≤ t.size) (hs : t.size ≤ 140737488351232) :
    Calls Try.prog 35 #[.string t] w fun e w' => e = .returned (.tuple #[.string (str (openL t.data.toList).1), .bool (openL t.data.toList).2]) ∧ Ext w w' := by
  have hu : (t.extract 0 (t.size - 4)).size = t.size - 4 := by rw [ByteArray.size_extract]; omega
  go_enter Try.func35, Try.ntmps35
  go_wp2_with fail
  generalize hU : t.extract 0 (t.size - 4) = u at hu ⊢
  have HU := Lib.hid hU
  clear hU
  refine (crc_seal_any u _ (by omega)).mono ?_
  rintro e w' ⟨rfl, hg⟩
  clear hu
  go_wp2
  all_goals go_ret2
  · have h := openL_no t u HU.out (by assumption)
    rw [h]; exact ⟨rfl, hg⟩
  · have h := openL_yes t u h4 HU.out (by assumption)
    rw [h]; exact ⟨rfl, hg⟩

theorem crc_open_any (t : ByteArray) (w : World) (hs : t.size ≤ 140737488351232) :
    Calls Try.prog 35 #[.string t] w fun e w' => e = .returned (.tuple #[.string (str (openL t.data.toList).1), .bool (openL t.data.toList).2]) ∧ Ext w w' := by
  by_cases h4 : t.size < 4
  · rw [openL_short t h4]; exact crc_open_short t w h4
  · exact crc_open_long t w (by omega) hs

end Go.Proofs.Ythkccaifabpleaa
