/- The walk of CrcBursts: what is turned within four bytes of a sealed text is seen. -/
import Derived.Test.YtlkfdiiecmpgeaaCrcAwake
import Derived.Test.YtlkfdiiecmpgeaaCrcBurst
import Derived.Test.YtlkfdiiecmpgeaaBytes
namespace Go.Proofs.Ytlkfdiiecmpgeaa
open Go.RowKit

theorem first_at (n : Nat) (a : Int) (hn : n ≤ 3000) : ∃ f : Nat, f ≤ n ∧ wrap64 ((IntKind.u64.wrap a).tmod ((n : Int) + 4 - 3)) = (f : Int) := by
  rw [IntKind.wrap_u64, Int.tmod_eq_emod_of_nonneg (Int.emod_nonneg _ (by decide))]
  generalize a % 18446744073709551616 = x
  have h1 := Int.emod_nonneg x (b := (n : Int) + 4 - 3) (by omega)
  have h2 := Int.emod_lt_of_pos x (b := (n : Int) + 4 - 3) (by omega)
  generalize x % ((n : Int) + 4 - 3) = y at h1 h2 ⊢
  refine ⟨y.toNat, by omega, ?_⟩
  unfold wrap64
  omega

theorem byte_turned (x : UInt8) (mask k : Nat) : bits .xor .u8 (x.toNat : Int) ((mask : Int) / 2 ^ (8 * k) % 256) = (((x ^^^ UInt8.ofNat (mask / 256 ^ k)).toNat : Nat) : Int) := by
  have e : (mask : Int) / 2 ^ (8 * k) % 256 = ((mask / 256 ^ k % 256 : Nat) : Int) := by
    rw [show (256 : Nat) ^ k = 2 ^ (8 * k) from by rw [Nat.pow_mul]]
    simp
  rw [e, u8_xor_nat _ _ (by have := x.toNat_lt; omega) (by omega), Crc.xor_byte]

theorem openL_whole (l : List UInt8) (h4 : 4 ≤ l.length) (h : ¬ Crc.whole l) : openL l = ([], false) := by
  unfold openL
  rw [if_neg (by omega)]; exact if_neg h

theorem openL_seal (t : List UInt8) : openL (Crc.seal' t) = (t, true) := by
  have h := Crc.whole_seal t
  unfold openL
  rw [if_neg (by unfold Crc.seal' Crc.le4; simp), h.2, if_pos rfl]

set_option maxHeartbeats 1000000 in
theorem crcBursts_walk (t : ByteArray) (at_ : Int) (mask : Nat) (w : World) (hs : t.size ≤ maxLen) (hm : mask < 4294967296) :
    Calls Try.prog 7 #[.string t, .int .i64 at_, .int .u32 mask] w fun e w' => e = .returned (.bool true) ∧ Ext w w' := by
  have hs' := hs
  unfold maxLen at hs'
  by_cases hg : 3000 < t.size
  · go_enter Try.func7, Try.ntmps7
    go_wp2_with fail
    refine (crc_awake _).mono ?_
    rintro e w' ⟨rfl, h1⟩
    go_wp2
    go_ret
    exact ⟨rfl, h1⟩
  · have h2 : t.size ≤ 3000 := by omega
    go_enter Try.func7, Try.ntmps7
    go_wp2_with fail
    refine (crc_seal_any t _ (by omega)).mono ?_
    rintro e w1 ⟨rfl, h1⟩
    have hl : (⟨(Crc.seal' t.data.toList).toArray⟩ : ByteArray).size = t.size + 4 := by
      show (Crc.seal' t.data.toList).toArray.size = _
      rw [List.size_toArray]; show (t.data.toList ++ Crc.le4 _).length = _
      rw [List.length_append]; rfl
    obtain ⟨cap, o, hcv, hb⟩ := bytes_of ⟨(Crc.seal' t.data.toList).toArray⟩ w1
    rw [hl] at hcv
    have HB := Lib.hid (show BytesAt (w1.alloc o).drew w1.heap.size (Crc.seal' t.data.toList) from hb)
    have hl' : (Crc.seal' t.data.toList).length = t.size + 4 := hl
    clear hb hl
    have hW := (h1.alloc o).drew
    obtain ⟨f, hfn, hff⟩ := first_at t.size at_ h2
    have HFF := Lib.hid hff
    clear hff
    go_wp2_with fail
    rw [HFF.out]
    clear hcv
    generalize hB : w1.heap.size = B at HB ⊢
    have hBw : w.heap.size ≤ B := by have := h1.size; omega
    clear hB
    generalize (w1.alloc o).drew = W at HB hW ⊢
    have HL := Lib.hid hl'
    clear hl'
    go_loopw [9] (fun i wr => ∃ k : Nat, k ≤ 4 ∧ i = .int .i64 k ∧ BytesAt wr B (Crc.turned (Crc.seal' t.data.toList) f mask k) ∧ Ext w wr) (fun i _ => 4 - (intOf i).toNat)
    case atStart => exact ⟨0, by omega, rfl, HB.out, hW⟩
    case round =>
      obtain ⟨k, hk, rfl, hb, he⟩ := hrel
      have hlen := Crc.turned_length (Crc.seal' t.data.toList) f mask k
      rw [HL.out] at hlen
      have hnext := Lib.hid (show Crc.turned (Crc.seal' t.data.toList) f mask (k + 1) = Crc.turn1 (Crc.turned (Crc.seal' t.data.toList) f mask k) (f + k) (UInt8.ofNat (mask / 256 ^ k)) from rfl)
      generalize hQ : Crc.turned (Crc.seal' t.data.toList) f mask k = q at hb hlen hnext
      have HQ := Lib.hid hQ
      clear hQ
      by_cases hlt : k < 4
      · have hq : f + k < q.length := by omega
        have hbk := hb (f + k) hq
        obtain ⟨hc, hfz⟩ := hbk
        have hqe : q.getD (f + k) 0 = q[f + k] := by simp [List.getD, hq]
        generalize q[f + k] = x at hc hqe
        have HX := Lib.hid hqe
        clear hqe
        have HB := Lib.hid hb
        clear hb
        have HLN := Lib.hid hlen
        clear hlen
        go_wp2_with fail
        refine ⟨⟨k + 1, by omega, by go_num, ?_, he.setCell hBw _⟩, by simp [intOf]; omega⟩
        rw [byte_turned, hnext.out]
        have := HB.out.set (f + k) hq (x ^^^ UInt8.ofNat (mask / 256 ^ k))
        unfold Crc.turn1
        rw [HX.out]
        exact this
      · obtain rfl : k = 4 := by omega
        have hcv := conv_bytes hb cap
        rw [hlen] at hcv
        have hqs : (⟨q.toArray⟩ : ByteArray).size = t.size + 4 := hlen
        have HLN := Lib.hid hlen
        have HBB := Lib.hid hb
        have HQS := Lib.hid hqs
        clear hlen hb hqs
        go_wp2_with fail
        refine (crc_open_any ⟨q.toArray⟩ _ (by rw [HQS.out]; omega)).mono ?_
        rintro e w2 ⟨rfl, h2'⟩
        rw [show (⟨q.toArray⟩ : ByteArray).data.toList = q from by simp]
        by_cases h0 : mask = 0
        · have hq0 : openL q = (t.data.toList, true) := by rw [← HQ.out, h0, Crc.turned_none, openL_seal]
          rw [hq0]
          subst h0
          rw [show str (t.data.toList, true).1 = t from rfl]
          go_wp2_with fail
          refine (crc_awake _).mono ?_
          rintro e w3 ⟨rfl, h3⟩
          go_wp2
          go_ret
          exact ⟨rfl, (he.trans h2').trans h3⟩
        · have hq0 : openL q = ([], false) := by
            refine openL_whole q (by rw [HLN.out]; omega) ?_
            rw [← HQ.out]; exact Crc.burst t.data.toList f mask hfn hm h0
          rw [hq0]
          have hb0 : ((mask : Int) == 0) = false := by rw [beq_eq_false_iff_ne]; omega
          rw [show str (([] : List UInt8), false).1 = ⟨#[]⟩ from rfl]
          go_wp2_with fail
          refine (crc_awake _).mono ?_
          rintro e w3 ⟨rfl, h3⟩
          go_wp2
          go_ret
          exact ⟨rfl, (he.trans h2').trans h3⟩

theorem crcBursts_int (t : ByteArray) (at_ m : Int) (w : World) (hs : t.size ≤ maxLen) (hm : (Lit.int .u32 m).wf = true) :
    Calls Try.prog 7 #[.string t, .int .i64 at_, .int .u32 m] w fun e w' => e = .returned (.bool true) ∧ Ext w w' := by
  have h : 0 ≤ m ∧ m ≤ 4294967295 := by simpa [Lit.wf, IntKind.min, IntKind.max, IntKind.signed, IntKind.bits] using hm
  obtain ⟨n, rfl⟩ := Int.eq_ofNat_of_zero_le h.1
  exact crcBursts_walk t at_ n w hs (by omega)

end Go.Proofs.Ytlkfdiiecmpgeaa
