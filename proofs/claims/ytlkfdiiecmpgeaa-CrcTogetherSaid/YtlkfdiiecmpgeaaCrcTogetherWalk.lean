/- The walk of CrcTogether: of three texts of one length, put together by exclusive or, the sum is that of their sums. -/
import Derived.Test.YtlkfdiiecmpgeaaCrcAwake
import Derived.Test.YtlkfdiiecmpgeaaBytes
import Derived.Deep.OwnRows
import Derived.Deep.RegionHeld3
import Derived.BigRegion
import Derived.Lib.Strings
namespace Go.Proofs.Ytlkfdiiecmpgeaa
open Go.RowKit

theorem info_u8 : (Try.prog.info? 5).map (fun i => (i.zero, i.size, i.bytes)) = some (some (.int .u8 0), 1, 1) := by kernel_rfl

theorem run_min4 {P : Program} (ts : Array TypeId) (t : TypeId) (x y z u : Nat) (w : World) :
    (Builtin.min_ ts t #[.int .i64 x, .int .i64 y, .int .i64 z, .int .i64 (u : Int)]).run P w = .ok (.int .i64 (min (min (min x y) z) u : Nat)) w := by
  have e1 : (if (y : Int) < x then (y : Int) else x) = ((min x y : Nat) : Int) := by split <;> omega
  have e2 : (if (z : Int) < (min x y : Nat) then (z : Int) else (min x y : Nat)) = ((min (min x y) z : Nat) : Int) := by split <;> omega
  have e3 : (if (u : Int) < (min (min x y) z : Nat) then (u : Int) else (min (min x y) z : Nat)) = ((min (min (min x y) z) u : Nat) : Int) := by split <;> omega
  simp only [Builtin.min_, List.foldlM_cons, List.foldlM_nil, Builtin.min2, Sem.run_bind, Sem.run_pure, Result.andThen, e1, e2, e3]

/-- Three lists, put together. -/
def mix (l m n : List UInt8) : List UInt8 := (l.zip (m.zip n)).map fun x => x.1 ^^^ x.2.1 ^^^ x.2.2
def mixed (x : List UInt8) (n k : Nat) : List UInt8 := x.take k ++ List.replicate (n - k) 0

theorem mixed_set (x : List UInt8) (n k : Nat) (y : UInt8) (hx : x.length = n) (hk : k < n) (hy : x[k]? = some y) : (mixed x n k).set k y = mixed x n (k + 1) := by
  unfold mixed
  have h1 : (x.take k).length = k := by simp; omega
  rw [List.set_append_right _ _ (by omega), h1, Nat.sub_self]
  rw [show n - k = (n - (k + 1)) + 1 from by omega, List.replicate_succ, List.set_cons_zero]
  rw [List.take_add_one, hy]
  simp

theorem mixed_length (x : List UInt8) (n k : Nat) (hx : x.length = n) (hk : k ≤ n) : (mixed x n k).length = n := by
  unfold mixed; simp; omega

theorem mix_length (l m n : List UInt8) (k : Nat) (h1 : l.length = k) (h2 : m.length = k) (h3 : n.length = k) : (mix l m n).length = k := by
  simp [mix]; omega

theorem byte3 (x y z : UInt8) : bits .xor .u8 (bits .xor .u8 (x.toNat : Int) (y.toNat : Int)) (z.toNat : Int) = (((x ^^^ y ^^^ z).toNat : Nat) : Int) := by
  have hx := x.toNat_lt
  have hy := y.toNat_lt
  have hz := z.toNat_lt
  rw [u8_xor_nat _ _ (by omega) (by omega), u8_xor_nat _ _ (Nat.xor_lt_two_pow (n := 8) (by omega) (by omega)) (by omega), UInt8.toNat_xor, UInt8.toNat_xor]

theorem bytesAt_made (w : World) (n : Nat) (x : List UInt8) : BytesAt (w.alloc (.cells (madeCells #[.int .u8 0] n) 5)) w.heap.size (mixed x n 0) := by
  have e : mixed x n 0 = List.replicate n 0 := by simp [mixed]
  rw [e]
  intro j hj
  have hj' : j < n := by simpa using hj
  refine ⟨?_, World.frozen?_alloc_new _ _ _ _⟩
  rw [World.cell?_alloc_new, ← Array.getElem?_toList, toList_madeCells_one]
  simp [hj']

theorem keepS {w wi w1 : World} {x : List UInt8} {B k cap : Nat} (hl : x.length = k) (h1 : Ext wi w1)
    (hs : (convert 34 9 (.slice (some ⟨B, 0, none⟩) k cap)).run Try.prog wi = .ok (.string ⟨x.toArray⟩) wi ∧ BytesAt wi B x ∧ Ext w wi) :
    (convert 34 9 (.slice (some ⟨B, 0, none⟩) k cap)).run Try.prog w1 = .ok (.string ⟨x.toArray⟩) w1 ∧ BytesAt w1 B x ∧ Ext w w1 :=
  ⟨conv_bytes' (hs.2.1.ext h1) hl _, hs.2.1.ext h1, hs.2.2.trans h1⟩

theorem lastS {w w1 : World} {x : List UInt8} {B k cap : Nat}
    (hs : (convert 34 9 (.slice (some ⟨B, 0, none⟩) k cap)).run Try.prog w1 = .ok (.string ⟨x.toArray⟩) w1 ∧ BytesAt w1 B x ∧ Ext w w1) : Ext w w1 := hs.2.2

theorem crc_of_ext (t : ByteArray) (w : World) (hs : t.size ≤ maxLen) :
    Calls Try.prog 9 #[.string t] w fun e w' => e = .returned (.int .u32 (Crc.sum t.data.toList : Nat)) ∧ Ext w w' := crc_of_at t _ _ rfl rfl w hs

theorem take_data' (a : ByteArray) (k : Nat) : (a.extract 0 k).data.toList = a.data.toList.take k := by rw [Lib.extract_data]; rfl

set_option maxHeartbeats 1000000 in
theorem crcTogether_walk (a b c : ByteArray) (w : World) (ha : a.size ≤ maxLen) (hb : b.size ≤ maxLen) (hc : c.size ≤ maxLen) :
    Calls Try.prog 5 #[.string a, .string b, .string c] w fun e w' => e = .returned (.bool true) ∧ Ext w w' := by
  unfold maxLen at ha hb hc
  have hmin : ∀ w, (Builtin.min_ #[3, 3, 3, 3] 3 #[.int .i64 a.size, .int .i64 b.size, .int .i64 c.size, .int .i64 2000]).run Try.prog w = .ok (.int .i64 (min (min (min a.size b.size) c.size) 2000 : Nat)) w := fun w => run_min4 (P := Try.prog) _ _ a.size b.size c.size 2000 w
  obtain ⟨n, hn⟩ : ∃ n : Nat, n = min (min (min a.size b.size) c.size) 2000 := ⟨_, rfl⟩
  rw [← hn] at hmin
  have hna : n ≤ a.size := by omega
  have hnb : n ≤ b.size := by omega
  have hnc : n ≤ c.size := by omega
  have hn2 : n ≤ 2000 := by omega
  clear hn
  have hmk := run_make_row' (P := Try.prog) 34 5 (.int .u8 0) 1 Try.underlying34 info_u8 rfl .i64 .i64 n (by omega) (by omega)
  go_enter Try.func5, Try.ntmps5
  go_wp2_with fail
  clear hmin hmk
  have h0 := (Ext.refl w).alloc (.cells (madeCells #[.int .u8 0] n) 5)
  have hB := bytesAt_made w n (mix (a.data.toList.take n) (b.data.toList.take n) (c.data.toList.take n))
  generalize w.alloc (.cells (madeCells #[.int .u8 0] n) 5) = W at h0 hB ⊢
  have hla : (a.data.toList.take n).length = n := by rw [List.length_take]; have : a.data.toList.length = a.size := rfl; omega
  have hlb : (b.data.toList.take n).length = n := by rw [List.length_take]; have : b.data.toList.length = b.size := rfl; omega
  have hlc : (c.data.toList.take n).length = n := by rw [List.length_take]; have : c.data.toList.length = c.size := rfl; omega
  have hlx := Lib.hid (mix_length _ _ _ n hla hlb hlc)
  have hsum := Lib.hid (Crc.sum_xor3 _ _ _ (hla.trans hlb.symm) (hlb.trans hlc.symm))
  have hat : ∀ (k : Nat) (_ : k < n) (x y z : UInt8), a.data.toList[k]? = some x → b.data.toList[k]? = some y → c.data.toList[k]? = some z → (mix (a.data.toList.take n) (b.data.toList.take n) (c.data.toList.take n))[k]? = some (x ^^^ y ^^^ z) := by
    intro k h1 x y z hx hy hz
    simp only [mix, List.getElem?_map, List.getElem?_zip_eq_some, List.getElem?_take, h1, if_true, Option.map_eq_some_iff]
    exact ⟨(x, y, z), ⟨hx, hy, hz⟩, rfl⟩
  have HAT := Lib.hid hat
  have HB := Lib.hid hB
  clear hla hlb hlc hat hB
  change Hid (Crc.sum (mix (a.data.toList.take n) (b.data.toList.take n) (c.data.toList.take n)) = _) at hsum
  generalize mix (a.data.toList.take n) (b.data.toList.take n) (c.data.toList.take n) = x at hsum hlx HAT HB
  go_loopw [9] (fun i wr => ∃ k : Nat, k ≤ n ∧ i = .int .i64 k ∧ BytesAt wr w.heap.size (mixed x n k) ∧ Ext w wr) (fun i _ => n - (intOf i).toNat)
  case atStart => exact ⟨0, by omega, rfl, HB.out, h0⟩
  case round =>
    obtain ⟨k, hk, rfl, hb, he⟩ := hrel
    by_cases hlt : k < n
    · have g1 : a.data.toList[k]? = some a[k] := by rw [Array.getElem?_toList]; exact Array.getElem?_eq_getElem _
      have g2 : b.data.toList[k]? = some b[k] := by rw [Array.getElem?_toList]; exact Array.getElem?_eq_getElem _
      have g3 : c.data.toList[k]? = some c[k] := by rw [Array.getElem?_toList]; exact Array.getElem?_eq_getElem _
      have hm := Lib.hid (mixed_set x n k _ hlx.out hlt (HAT.out k hlt _ _ _ g1 g2 g3))
      clear g1 g2 g3
      have hml := mixed_length x n k hlx.out (by omega)
      have hbk := hb k (by omega)
      generalize (mixed x n k)[k]'(by omega) = old at hbk
      obtain ⟨hc0, hf0⟩ := hbk
      have HBK := Lib.hid hb
      clear hb hml
      have e3 := byte3 a[k] b[k] c[k]
      have i1 : (k : Int) < (a.size : Int) := by omega
      have i2 : (k : Int) < (b.size : Int) := by omega
      have i3 : (k : Int) < (c.size : Int) := by omega
      go_wp2_with fail
      go_region
      go_wp2
      refine ⟨⟨k + 1, by omega, by go_num, ?_, (he.setCell (Nat.le_refl _) _).drew⟩, by simp [intOf]; omega⟩
      rw [← UInt8.toNat_xor, ← UInt8.toNat_xor, ← hm.out]
      exact (HBK.out.set k (by rw [mixed_length x n k hlx.out (by omega)]; exact hlt) _).ext ((Ext.refl _).drew)
    · obtain rfl : k = n := by omega
      have hcv := conv_bytes hb k
      have hml := mixed_length x k k hlx.out (by omega)
      rw [hml] at hcv
      have hx : mixed x k k = x := by unfold mixed; rw [Nat.sub_self, List.take_of_length_le (by rw [hlx.out]; exact Nat.le_refl _)]; simp
      rw [hx] at hcv hb
      clear hx hml
      have HBX := Lib.hid hb
      clear hb
      have hxs : (⟨x.toArray⟩ : ByteArray).size ≤ maxLen := by rw [show (⟨x.toArray⟩ : ByteArray).size = x.length from by simp [ByteArray.size], hlx.out]; unfold maxLen; omega
      have za : (a.extract 0 k).size ≤ maxLen := by rw [ByteArray.size_extract]; unfold maxLen; omega
      have zb : (b.extract 0 k).size ≤ maxLen := by rw [ByteArray.size_extract]; unfold maxLen; omega
      have zc : (c.extract 0 k).size ≤ maxLen := by rw [ByteArray.size_extract]; unfold maxLen; omega
      have hE := hsum.out
      have ea := Crc.sum_lt (a.data.toList.take k)
      have eb := Crc.sum_lt (b.data.toList.take k)
      have ec := Crc.sum_lt (c.data.toList.take k)
      have e1 := u32_xor_nat _ _ ea eb
      have e2 := u32_xor_nat _ _ (Crc.xor_lt ea eb) ec
      have e3 : ((Crc.sum x : Int) == ((Crc.sum (a.data.toList.take k) ^^^ Crc.sum (b.data.toList.take k) ^^^ Crc.sum (c.data.toList.take k) : Nat) : Int)) = true := by rw [hE]; simp
      clear hE ea eb ec
      go_wp2_with fail
      go_region_held3 (fun w' => (convert 34 9 (.slice (some ⟨w.heap.size, 0, none⟩) k k)).run Try.prog w' = .ok (.string ⟨x.toArray⟩) w' ∧ BytesAt w' w.heap.size x ∧ Ext w w')
        (first | exact ⟨conv_bytes' (HBX.out.ext ((Ext.refl _).drew)) hlx.out _, HBX.out.ext ((Ext.refl _).drew), he.drew⟩ | exact keepS hlx.out h1 (by assumption))
        (first | (go_at_call 9; refine (crc_of_ext _ _ ?_).mono ?_; (first | exact hxs | exact za | exact zb | exact zc); rintro e w1 ⟨rfl, h1⟩) | (go_at_call 8; refine (crc_awake _).mono ?_; rintro e w1 ⟨rfl, h1⟩))
      go_wp2
      go_ret
      refine ⟨rfl, ?_⟩
      refine lastS (x := x) (B := w.heap.size) (k := k) (cap := k) ?_
      assumption
end Go.Proofs.Ytlkfdiiecmpgeaa
