/- The walk of WalCut. -/
import Derived.Test.YthkccaifabpleaaWalLaw
import Derived.Test.YthkccaifabpleaaStrsSized
namespace Go.Proofs.Ythkccaifabpleaa
open Go.RowKit

/-- Texts as lists of bytes. -/
def lists (l : List ByteArray) : List (List UInt8) := l.map fun s => s.data.toList
theorem lists_str (l : List ByteArray) : (lists l).map str = l := by
  rw [lists, List.map_map]
  conv => rhs; rw [← List.map_id l]
  congr 1
theorem lists_take (l : List ByteArray) (k : Nat) : (lists l).take k = lists (l.take k) := by rw [lists, lists, List.map_take]
theorem lists_length (l : List ByteArray) : (lists l).length = l.length := by rw [lists, List.length_map]

theorem Texts.take {w : World} {p : Option Addr} {n : Nat} {l : List ByteArray} (h : Texts w p n l) (k : Nat) (hk : k ≤ n) : Texts w p k (l.take k) := by
  obtain ⟨h1, h2, h3, h4⟩ := h
  refine ⟨by rw [List.length_take]; omega, by omega, fun s hs => h3 s (List.mem_of_mem_take hs), ?_⟩
  rcases h4 with rfl | ⟨b, off, hp, hs⟩
  · exact .inl (by omega)
  · refine .inr ⟨b, off, hp, fun i hi => ?_⟩
    rw [List.length_take] at hi
    rw [hs i (by omega)]; simp

/-- How far a cut comes. -/
def CutRel (l : List ByteArray) (at' k wh : Nat) : Prop :=
  wh ≤ k ∧ (Wal.frames 0 ((lists l).take wh)).length ≤ at' ∧ (wh = k ∨ at' < (Wal.frames 0 ((lists l).take (wh + 1))).length)

theorem cutRel_yes {l : List ByteArray} {at' k : Nat} (h : (Wal.frames 0 ((lists l).take (k + 1))).length ≤ at') : CutRel l at' (k + 1) (k + 1) := ⟨Nat.le_refl _, h, .inl rfl⟩
theorem cutRel_no {l : List ByteArray} {at' k wh : Nat} (hr : CutRel l at' k wh) (h : at' < (Wal.frames 0 ((lists l).take (k + 1))).length) : CutRel l at' (k + 1) wh := by
  obtain ⟨h1, h2, h3⟩ := hr
  refine ⟨by omega, h2, .inr ?_⟩
  rcases h3 with rfl | h3
  · exact h
  · exact h3

theorem frames_step (l : List ByteArray) (k : Nat) (h : k < l.length) : Wal.frames 0 ((lists l).take (k + 1)) = Wal.frames 0 ((lists l).take k) ++ Wal.frame (k : Nat) l[k].data.toList := by
  have hk : k < (lists l).length := by rw [lists_length]; exact h
  rw [List.take_succ_eq_append_getElem hk, Wal.frames_snoc, List.length_take, Nat.min_eq_left (by omega), Nat.zero_add]
  simp [lists]

theorem mem_flatten_len {l : List (List UInt8)} {s : List UInt8} (h : s ∈ l) : s.length ≤ l.flatten.length := by
  induction l with
  | nil => cases h
  | cons a l ih =>
    rw [List.flatten_cons, List.length_append]
    rcases List.mem_cons.1 h with rfl | h
    · omega
    · have := ih h; omega

theorem small_each {l : List ByteArray} (h : Small l) : ∀ s ∈ lists l, s.length ≤ 20000 := fun s hs => by
  have := mem_flatten_len hs
  have := h.2
  unfold lists at *
  omega

theorem small_frames {l : List ByteArray} (h : Small l) (k : Nat) : (Wal.frames 0 ((lists l).take k)).length ≤ 20560 := by
  have h1 := Wal.frames_grow (lists l) (min k l.length) l.length (by omega)
  have e1 : (lists l).take (min k l.length) = (lists l).take k := by
    by_cases hk : k ≤ l.length
    · rw [Nat.min_eq_left hk]
    · rw [Nat.min_eq_right (by omega), List.take_of_length_le (by rw [lists_length]; omega), List.take_of_length_le (by rw [lists_length]; omega)]
  rw [e1, List.take_of_length_le (Nat.le_of_eq (lists_length l))] at h1
  have h2 := Wal.frames_most (lists l) 0 (by rw [lists_length]; have := h.1; omega) (fun s hs => by have := small_each h s hs; omega)
  rw [lists_length] at h2
  have h3 := h.2
  have h4 := h.1
  unfold lists at *
  omega

set_option maxRecDepth 100000 in
set_option maxHeartbeats 1000000 in
theorem walCut_walk (p : Option Addr) (n c : Nat) (l : List ByteArray) (cut : Int) (w : World) (hx : Texts w p n l) (hz : ∀ s ∈ l, s.size ≤ 140737488351232)
    (hcap : n ≤ c) :
    Calls Try.prog 5 #[.slice p n c, .int .i64 cut] w fun e w' => e = .returned (.bool true) ∧ Ext w w' := by
  have hx0 := hx
  have hz0 := hz
  obtain ⟨x1, x2, x3, x4⟩ := hx
  have HX : Hid (n = 0 ∨ ∃ b off, p = some ⟨b, off, none⟩ ∧ StrsAt w b off l) := x4
  unfold maxLen at x2
  clear x3 x4
  go_enter Try.func5, Try.ntmps5
  go_wp2_with fail
  refine (great_any p n c l _ hx0 hz0).mono ?_
  rintro e w1 ⟨r, rfl, h1, hsm⟩
  cases r with
  | true =>
    go_wp2_with fail
    refine (wal_awake _).mono ?_
    rintro e w2 ⟨rfl, h2⟩
    go_wp2
    go_ret
    exact ⟨rfl, h1.trans h2⟩
  | false =>
    have hS := hsm rfl
    clear hsm
    have HE := small_each hS
    have HFR := small_frames hS
    have hn40 : n ≤ 40 := by have := hS.1; omega
    have HS : Hid (Small l) := hS
    clear hS hz0 hz
    obtain ⟨at', hat, hat1⟩ : ∃ m : Nat, wrap64 ((IntKind.u64.wrap cut).tmod 20500) = (m : Int) ∧ m < 20500 := by
      have e0 : IntKind.u64.wrap cut = cut % 18446744073709551616 := by unfold IntKind.wrap; rw [if_neg (by rintro ⟨⟨⟩, _⟩)]; rfl
      have e1 : 0 ≤ cut % 18446744073709551616 := Int.emod_nonneg _ (by omega)
      have e2 : (cut % 18446744073709551616).tmod 20500 = cut % 18446744073709551616 % 20500 := Int.tmod_eq_emod_of_nonneg e1
      have e3 : 0 ≤ cut % 18446744073709551616 % 20500 := Int.emod_nonneg _ (by omega)
      have e4 : cut % 18446744073709551616 % 20500 < 20500 := Int.emod_lt_of_pos _ (by omega)
      rw [e0, e2]
      generalize cut % 18446744073709551616 % 20500 = x at e3 e4
      refine ⟨x.toNat, ?_, by omega⟩
      unfold wrap64
      omega
    go_wp2
    rw [hat]
    clear hat
    go_loopw [5, 7, 8, 9] (fun b wh en i wr => ∃ k h : Nat, k ≤ n ∧ i = .int .i64 k ∧ wh = .int .i64 h ∧ b = .string (str (Wal.frames 0 ((lists l).take k))) ∧ en = .int .i64 (Wal.frames 0 ((lists l).take h)).length ∧ CutRel l at' k h ∧ Ext w wr) (fun _ _ _ i _ => n - (intOf i).toNat)
    case atStart => exact ⟨0, 0, by omega, rfl, rfl, by simp [Wal.frames, str], by simp [Wal.frames], ⟨by omega, by simp [Wal.frames], .inl rfl⟩, h1⟩
    case round =>
      obtain ⟨k, h, hk, rfl, rfl, rfl, rfl, hrel, he⟩ := hrel
      by_cases hlt : k < n
      · have hlk : k < l.length := by omega
        obtain ⟨b, off, rfl, hs⟩ : ∃ b off, p = some ⟨b, off, none⟩ ∧ StrsAt w b off l := by
          rcases HX.out with h | h
          · omega
          · exact h
        have hcell := he.cell (hs k hlk)
        have hstep := frames_step l k hlk
        have hsz := HE l[k].data.toList (List.mem_map.2 ⟨l[k], List.getElem_mem hlk, rfl⟩)
        have hf1 := HFR (k + 1)
        have hf0 := HFR k
        have HY := Lib.hid (fun hh => cutRel_yes (l := l) (at' := at') (k := k) hh)
        have HNO := Lib.hid (fun hh => cutRel_no (l := l) (at' := at') (k := k) (wh := h) hrel hh)
        generalize l[k] = s at hcell hstep hsz
        have hsz' : s.size ≤ 20000 := hsz
        obtain ⟨f, hf⟩ : ∃ f, Wal.frame (k : Nat) s.data.toList = f := ⟨_, rfl⟩
        rw [hf] at hstep
        have HF := Lib.hid hf
        have hlen := congrArg List.length hstep
        rw [List.length_append] at hlen
        have HST := Lib.hid hstep
        clear hs hf hstep hrel hsz
        generalize hX : Wal.frames 0 ((lists l).take k) = x at *
        have hxs : (str x).size ≤ 20560 := hf0
        have hfs : (str f).size ≤ 20560 := by have : (str f).size = f.length := rfl; omega
        have hss : (str x ++ str f) = str (x ++ f) := append_str _ _
        have hx2 : (str x ++ str f).size = x.length + f.length := by rw [ByteArray.size_append]; rfl
        have hs1 : (str x).size = x.length := rfl
        have hs2 : (str f).size = f.length := rfl
        have HSS := Lib.hid hss
        clear hss
        generalize hm : (Wal.frames 0 ((lists l).take (k + 1))).length = m at hlen hf1 HY HNO
        go_wp2_with fail
        refine (frame_at _ s _ f rfl HF.out _ (by omega)).mono ?_
        rintro e w2 ⟨rfl, h2⟩
        by_cases hin : m ≤ at'
        · have hin' : (str x ++ str f).size ≤ at' := by omega
          have hin2 : (str x).size + (str f).size ≤ at' := by omega
          go_wp2
          go_roundw
          case rel => exact ⟨k + 1, k + 1, by omega, by go_num, by go_num, by rw [HST.out, ← HSS.out], by rw [HST.out, List.length_append]; go_num, HY.out hin, he.trans h2⟩
          case measure => simp [intOf]; omega
        · have hin' : ¬ (str x ++ str f).size ≤ at' := by omega
          have hin2 : ¬ (str x).size + (str f).size ≤ at' := by omega
          go_wp2
          go_roundw
          case rel => exact ⟨k + 1, h, by omega, by go_num, rfl, by rw [HST.out, ← HSS.out], rfl, HNO.out (by omega), he.trans h2⟩
          case measure => simp [intOf]; omega
      · obtain rfl : k = n := by omega
        obtain ⟨hr1, hr2, hr3⟩ := hrel
        have hall : (lists l).take k = lists l := List.take_of_length_le (by rw [lists_length]; omega)
        have hf0 := HFR k
        rw [hall] at hf0 ⊢
        have hcut := Wal.scan_cut (lists l) h at' (by rw [lists_length]; omega) (fun s hs => by have := HE s hs; omega) (by rw [lists_length]; omega) hr2 (hr3.imp (fun e => by rw [lists_length]; omega) id)
        have hcut2 : Wal.scan ((Wal.frames 0 (lists l)).take (min at' (Wal.frames 0 (lists l)).length)) 0 = ((lists l).take h, (Wal.frames 0 ((lists l).take h)).length) := by
          rw [← hcut]; congr 1
          by_cases hc : at' ≤ (Wal.frames 0 (lists l)).length
          · rw [Nat.min_eq_left hc]
          · rw [Nat.min_eq_right (by omega), List.take_length, List.take_of_length_le (by omega)]
        have hte := hx0.take h (by omega)
        have hlt2 : lists (l.take h) = (lists l).take h := (lists_take l h).symm
        have hmx : ∀ s ∈ (lists l).take h, s.length ≤ maxLen := fun s hs => by have := HE s (List.mem_of_mem_take hs); unfold maxLen; omega
        have hst := lists_str (l.take h)
        rw [hlt2] at hst
        have HST := Lib.hid hst
        have hll : ((lists l).take h).length = h := by rw [List.length_take, lists_length]; omega
        have HLL := Lib.hid hll
        have HMX : Hid (∀ s ∈ (lists l).take h, s.length ≤ maxLen) := hmx
        clear hcut hr3 hall hlt2 hst hll hmx HFR HE hlt
        generalize hen : (Wal.frames 0 ((lists l).take h)).length = en at hcut2 hr2 ⊢
        have hen1 : en ≤ 20500 := by omega
        generalize hF : Wal.frames 0 (lists l) = F at hcut2 hf0 ⊢
        have hFs : (str F).size = F.length := rfl
        have hhk : h ≤ c := by omega
        have hee : ((en : Int) == (en : Int)) = true := by simp
        have HC := Lib.hid hcut2
        clear hcut2 hen hF hr2
        by_cases hmin : at' ≤ F.length
        · rw [Nat.min_eq_left hmin] at HC
          go_wp2_with fail
          refine (scan_at _ _ _ (by rw [Lib.extract_data]; rfl) HC.out _ (by rw [ByteArray.size_extract]; omega)).mono ?_
          rintro e w2 ⟨v, rfl, hrow, h2⟩
          obtain ⟨q, d, rfl⟩ := ownsRow_slice hrow
          have ht1 := texts_own hrow rfl HMX.out
          rw [HST.out, HLL.out] at ht1
          rw [HLL.out]
          clear hrow
          rcases HX.out with hk0 | ⟨b, off, rfl, hs⟩
          · obtain rfl : h = 0 := by omega
            cases p with
            | none =>
              go_wp2_with fail
              refine (same_texts q _ _ _ d _ _ _ ht1 ((hte.ext he).ext h2)).mono ?_
              rintro e w3 ⟨rfl, h3⟩
              go_wp2_with fail
              refine (wal_awake _).mono ?_
              rintro e w4 ⟨rfl, h4⟩
              go_wp2
              go_ret
              exact ⟨rfl, ((he.trans h2).trans h3).trans h4⟩
            | some a =>
              go_wp2_with fail
              refine (same_texts q _ _ _ d _ _ _ ht1 ((hte.ext he).ext h2)).mono ?_
              rintro e w3 ⟨rfl, h3⟩
              go_wp2_with fail
              refine (wal_awake _).mono ?_
              rintro e w4 ⟨rfl, h4⟩
              go_wp2
              go_ret
              exact ⟨rfl, ((he.trans h2).trans h3).trans h4⟩
          · clear hs
            go_wp2_with fail
            refine (same_texts q _ _ _ d _ _ _ ht1 ((hte.ext he).ext h2)).mono ?_
            rintro e w3 ⟨rfl, h3⟩
            go_wp2_with fail
            refine (wal_awake _).mono ?_
            rintro e w4 ⟨rfl, h4⟩
            go_wp2
            go_ret
            exact ⟨rfl, ((he.trans h2).trans h3).trans h4⟩
        · rw [Nat.min_eq_right (by omega)] at HC
          go_wp2_with fail
          refine (scan_at _ _ _ (by rw [Lib.extract_data]; rfl) HC.out _ (by rw [ByteArray.size_extract]; omega)).mono ?_
          rintro e w2 ⟨v, rfl, hrow, h2⟩
          obtain ⟨q, d, rfl⟩ := ownsRow_slice hrow
          have ht1 := texts_own hrow rfl HMX.out
          rw [HST.out, HLL.out] at ht1
          rw [HLL.out]
          clear hrow
          rcases HX.out with hk0 | ⟨b, off, rfl, hs⟩
          · obtain rfl : h = 0 := by omega
            cases p with
            | none =>
              go_wp2_with fail
              refine (same_texts q _ _ _ d _ _ _ ht1 ((hte.ext he).ext h2)).mono ?_
              rintro e w3 ⟨rfl, h3⟩
              go_wp2_with fail
              refine (wal_awake _).mono ?_
              rintro e w4 ⟨rfl, h4⟩
              go_wp2
              go_ret
              exact ⟨rfl, ((he.trans h2).trans h3).trans h4⟩
            | some a =>
              go_wp2_with fail
              refine (same_texts q _ _ _ d _ _ _ ht1 ((hte.ext he).ext h2)).mono ?_
              rintro e w3 ⟨rfl, h3⟩
              go_wp2_with fail
              refine (wal_awake _).mono ?_
              rintro e w4 ⟨rfl, h4⟩
              go_wp2
              go_ret
              exact ⟨rfl, ((he.trans h2).trans h3).trans h4⟩
          · clear hs
            go_wp2_with fail
            refine (same_texts q _ _ _ d _ _ _ ht1 ((hte.ext he).ext h2)).mono ?_
            rintro e w3 ⟨rfl, h3⟩
            go_wp2_with fail
            refine (wal_awake _).mono ?_
            rintro e w4 ⟨rfl, h4⟩
            go_wp2
            go_ret
            exact ⟨rfl, ((he.trans h2).trans h3).trans h4⟩

end Go.Proofs.Ythkccaifabpleaa
