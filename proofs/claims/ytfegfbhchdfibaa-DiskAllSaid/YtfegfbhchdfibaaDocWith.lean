/- The document's files without one, and with one. -/
import Derived.Test.YtfegfbhchdfibaaDocMem
import Derived.Test.YtfegfbhchdfibaaDiskThere
namespace Go.Proofs.Ytfegfbhchdfibaa
open Go.RowKit

theorem without_next (l : DK.Files) (n : ByteArray) (k : Nat) (hk : k < l.length) : DK.without (l.take (k + 1)) n = DK.without (l.take k) n ++ if l[k].1 ≠ n then [l[k]] else [] := by
  rw [take_next l k hk]
  unfold DK.without
  rw [List.filter_append]
  congr 1
  by_cases h1 : l[k].1 = n
  · rw [if_neg (by simp [h1]), List.filter_cons, if_neg (by simp [h1])]; rfl
  · rw [if_pos h1, List.filter_cons, if_pos (by simp [h1])]; rfl

set_option maxRecDepth 100000 in
set_option maxHeartbeats 1000000 in
theorem ref_without {w : World} {v : Value} {l : DK.Files} (hv : FsV w v l) (n : ByteArray) :
    Calls Try.prog 61 #[v, .string n] w fun e w' => ∃ v', e = .returned v' ∧ FsV w' v' (DK.without l n) ∧ Ext w w' ∧ New w v' := by
  obtain ⟨i0, hi, hz0, hz1, hz2⟩ := info_parts info_file
  have Hi := Lib.hid hi
  obtain ⟨p, c, rfl, hlen, h0⟩ := hv
  have HV : Hid (l.length = 0 ∨ ∃ b o, p = some ⟨b, o, none⟩ ∧ FsAt w b o l) := h0
  obtain ⟨m, hm⟩ : ∃ m, l.length = m := ⟨_, rfl⟩
  have HM := Lib.hid hm
  rw [hm] at hlen HV ⊢
  clear hm h0 hi
  go_enter Try.func61, Try.ntmps61
  go_wp2
  go_loopw [5, 6] (fun a iv W => ∃ (k j : Nat) (q : Option Addr) (c' : Nat), k ≤ m ∧ iv = .int .i64 k ∧ j ≤ k ∧ a = .slice q j c' ∧ Hid ((DK.without (l.take k) n).length = j) ∧ Hid (W.ownsRow w.heap.size 83 2 (.slice q j c') j (fCells (DK.without (l.take k) n))) ∧ Hid (Ext w W)) (fun _ iv _ => m - (intOf iv).toNat)
  case atStart => exact ⟨0, 0, none, 0, by omega, rfl, by omega, rfl, Lib.hid rfl, Lib.hid (World.ownsRow_nil _ _ _ _), Lib.hid (Ext.refl _)⟩
  case round =>
    obtain ⟨k, j, q, c', hk, rfl, hjk, rfl, HJ, HR, HE⟩ := hrel
    by_cases hlt : k < m
    · have hkl : k < l.length := by rw [HM.out]; exact hlt
      obtain ⟨b, o, rfl, hs⟩ : ∃ b o, p = some ⟨b, o, none⟩ ∧ FsAt w b o l := by
        rcases HV.out with h | h
        · omega
        · exact h
      have q1 := HE.out.cell (hs k hkl).1
      have q2 := HE.out.cell (hs k hkl).2
      have hnx := without_next l n k hkl
      generalize l[k] = x at *
      obtain ⟨a, s⟩ := x
      simp only at q1 q2 hnx
      by_cases he : a = n
      · rw [if_neg (by simp [he]), List.append_nil] at hnx
        have HNX := Lib.hid hnx
        subst he
        have t1 : (a.toList != a.toList) = false := by simp
        clear hs hnx
        go_wp2
        go_roundw
        case rel => exact ⟨k + 1, j, q, c', by omega, by go_num, by omega, rfl, Lib.hid (by rw [HNX.out]; exact HJ.out), Lib.hid (by rw [HNX.out]; exact HR.out), HE⟩
        case measure => simp [intOf]; omega
      · rw [if_pos he] at hnx
        have HNX := Lib.hid hnx
        have t1 := (txt_ne he).2
        have t0 := (txt_ne he).1
        have HR5 := Lib.hid (row_to HR.out ((Ext.refl _).alloc (.cells #[.string a, .string s] 83)))
        have HE5 := Lib.hid (HE.out.alloc (.cells #[.string a, .string s] 83))
        have hb5 := HE5.out.size
        have b1 : j + 1 ≤ maxLen := by unfold maxLen; omega
        have b2 : (j + 1) * 32 ≤ 140737488355328 := by omega
        clear hs hnx
        go_wp2_with (at_builtin; refine wpList_append_lies _ rfl _ _ 41 rfl w.heap.size 83 i0 (.agg #[.string ByteArray.empty, .string ByteArray.empty]) 2 32 Try.underlying41 Hi.out hz0 hz1 hz2 rfl (by decide) _ j _ rfl HR5.out ⟨_, 0, none⟩ 1 1 [.string a, .string s] rfl rfl (two_new _ _ _ _) (by intro u hu; simp at hu; rcases hu with rfl | rfl <;> rfl) (by decide) b1 b2 hb5 _ rfl ?_; intro g cap w6 hown hgrow hat hgl; have HW6 := Lib.hid hown; have HE6 := Lib.hid (ext_grownV HE5.out HR5.out hgrow (Nat.le_refl _)); clear hown hgrow hat)
        go_roundw
        case rel => exact ⟨k + 1, j + 1, some ⟨g, 0, none⟩, cap, by omega, by go_num, by omega, rfl, Lib.hid (by rw [HNX.out, List.length_append, HJ.out]; rfl), Lib.hid (by have h6 := HW6.out; rw [fCells_snoc] at h6; rw [HNX.out]; exact h6), HE6⟩
        case measure => simp [intOf]; omega
    · obtain rfl : k = m := by omega
      have ht : l.take k = l := List.take_of_length_le (by rw [HM.out]; exact Nat.le_refl _)
      have hr := HR.out
      have hj := HJ.out
      rw [ht] at hr hj
      have HR9 := Lib.hid hr
      have HJ9 := Lib.hid hj
      clear hr hj ht
      go_wp2
      go_ret
      exact ⟨_, rfl, row_files HR9.out HJ9.out (by omega), HE.out, row_new HR9.out⟩

theorem bytesLess_eq : ∀ x y : List UInt8, Op.bytesLess x y = bytesBefore x y
  | [], [] => rfl
  | _ :: _, [] => rfl
  | [], _ :: _ => rfl
  | a :: x, b :: y => by
    unfold Op.bytesLess bytesBefore
    rw [bytesLess_eq x y]
theorem bytesLess_lt (a b : ByteArray) : Op.bytesLess a.toList b.toList = DK.lt a b := by
  rw [bytesLess_eq, ByteArray.toList_eq, ByteArray.toList_eq]
  rfl
/-- What the document's loop has laid of the files with one: whether it is in, and what is laid. -/
def withTo (x : ByteArray × ByteArray) (l : DK.Files) : Bool × DK.Files := l.foldl (fun r y => if r.1 = false ∧ DK.lt x.1 y.1 = true then (true, r.2 ++ [x, y]) else (r.1, r.2 ++ [y])) (false, [])
theorem withTo_next (x : ByteArray × ByteArray) (l : DK.Files) (k : Nat) (hk : k < l.length) : withTo x (l.take (k + 1)) = if (withTo x (l.take k)).1 = false ∧ DK.lt x.1 l[k].1 = true then (true, (withTo x (l.take k)).2 ++ [x, l[k]]) else ((withTo x (l.take k)).1, (withTo x (l.take k)).2 ++ [l[k]]) := by
  rw [take_next l k hk]
  unfold withTo
  rw [List.foldl_append]
  rfl
theorem withTo_go (x : ByteArray × ByteArray) : ∀ (l : DK.Files) (b : Bool) (o : DK.Files), l.foldl (fun r y => if r.1 = false ∧ DK.lt x.1 y.1 = true then (true, r.2 ++ [x, y]) else (r.1, r.2 ++ [y])) (b, o) =
    if b = true then (true, o ++ l) else if (l.any fun y => DK.lt x.1 y.1) = true then (true, o ++ DK.ins x l) else (false, o ++ l) := by
  intro l
  induction l with
  | nil => intro b o; cases b <;> simp
  | cons y l ih =>
    intro b o
    rw [List.foldl_cons]
    cases b with
    | true => rw [if_neg (by simp), ih]; simp
    | false =>
      by_cases h : DK.lt x.1 y.1 = true
      · rw [if_pos ⟨rfl, h⟩, ih]
        simp [h, DK.ins]
      · have h' : DK.lt x.1 y.1 = false := by simpa using h
        rw [if_neg (by simp [h']), ih]
        simp only [List.any_cons, h', Bool.false_or, DK.ins, if_false, Bool.false_eq_true]
        by_cases h2 : (l.any fun y => DK.lt x.1 y.1) = true
        · simp [h2]
        · simp [h2]
theorem ins_end (x : ByteArray × ByteArray) : ∀ (l : DK.Files), (l.any fun y => DK.lt x.1 y.1) = false → DK.ins x l = l ++ [x] := by
  intro l
  induction l with
  | nil => intro _; rfl
  | cons y l ih =>
    intro h
    rw [List.any_cons, Bool.or_eq_false_iff] at h
    unfold DK.ins
    rw [if_neg (by rw [h.1]; simp), ih h.2]
    rfl
theorem withTo_end (x : ByteArray × ByteArray) (l : DK.Files) : DK.ins x l = if (withTo x l).1 = true then (withTo x l).2 else (withTo x l).2 ++ [x] := by
  unfold withTo
  rw [withTo_go]
  simp only [Bool.false_eq_true, if_false, List.nil_append]
  by_cases h : (l.any fun y => DK.lt x.1 y.1) = true
  · simp [h]
  · simp only [h, if_false, Bool.false_eq_true]
    exact ins_end x l (by simpa using h)

set_option maxRecDepth 100000 in
set_option maxHeartbeats 1000000 in
theorem ref_with {w : World} {v : Value} {l : DK.Files} (hv : FsV w v l) (n s : ByteArray) (hl1 : l.length ≤ 1000000) :
    Calls Try.prog 60 #[v, .agg #[.string n, .string s]] w fun e w' => ∃ v', e = .returned v' ∧ FsV w' v' (DK.put l n s) ∧ Ext w w' ∧ New w v' := by
  obtain ⟨i0, hi, hz0, hz1, hz2⟩ := info_parts info_file
  have Hi := Lib.hid hi
  have x1 := (Ext.refl w).alloc (.cells #[.string n, .string s] 83)
  have c0' : (w.alloc (.cells #[.string n, .string s] 83)).cell? ⟨w.heap.size, 0, none⟩ = some (.string n) := alloc_cell w _ _ 0
  have c1' : (w.alloc (.cells #[.string n, .string s] 83)).cell? ⟨w.heap.size, 1, none⟩ = some (.string s) := alloc_cell w _ _ 1
  have hwo := ref_without (hv.ext x1) n
  have hlw := DK.without_length l n
  have hput : DK.put l n s = DK.ins (n, s) (DK.without l n) := rfl
  rw [hput]
  generalize DK.without l n = l2 at *
  have HWO := Lib.hid hwo
  have HC0 := Lib.hid c0'
  have HC1 := Lib.hid c1'
  have HX1 := Lib.hid x1
  obtain ⟨p, c, rfl, _, _⟩ := hv
  generalize l.length = m0 at *
  clear hwo c0' c1' x1 hi hput
  go_enter Try.func60, Try.ntmps60
  have k0 := HC0.out
  go_wp2_with fail
  refine HWO.out.mono ?_
  rintro e w2 ⟨v2, rfl, hv2, g2, _⟩
  obtain ⟨p2, c2, rfl, hl2, h2⟩ := hv2
  have HV : Hid (l2.length = 0 ∨ ∃ b o, p2 = some ⟨b, o, none⟩ ∧ FsAt w2 b o l2) := h2
  obtain ⟨m, hm⟩ : ∃ m, l2.length = m := ⟨_, rfl⟩
  have HM := Lib.hid hm
  rw [hm] at hl2 HV hlw ⊢
  have HX2 := Lib.hid (HX1.out.trans g2)
  have HD0 := Lib.hid (g2.cell HC0.out)
  have HD1 := Lib.hid (g2.cell HC1.out)
  generalize w.heap.size = X at *
  clear hm h2 g2 k0 HWO
  go_wp2
  go_loopw [5, 6, 7] (fun a fl iv W => ∃ (k j : Nat) (q : Option Addr) (c' : Nat) (b : Bool) (O : DK.Files), k ≤ m ∧ iv = .int .i64 k ∧ fl = .bool b ∧ a = .slice q j c' ∧ j ≤ k + b.toNat ∧ Hid (withTo (n, s) (l2.take k) = (b, O)) ∧ Hid (O.length = j) ∧ Hid (W.ownsRow w2.heap.size 83 2 (.slice q j c') j (fCells O)) ∧ Hid (Ext w2 W)) (fun _ _ iv _ => m - (intOf iv).toNat)
  case atStart => exact ⟨0, 0, none, 0, false, [], by omega, rfl, rfl, rfl, by omega, Lib.hid rfl, Lib.hid rfl, Lib.hid (World.ownsRow_nil _ _ _ _), Lib.hid (Ext.refl _)⟩
  case round =>
    obtain ⟨k, j, q, c', b, O, hk, rfl, rfl, rfl, hjk, HT, HJ, HR, HE⟩ := hrel
    have x0 := HE.out.cell HD0.out
    have x1 := HE.out.cell HD1.out
    by_cases hlt : k < m
    · have hkl : k < l2.length := by rw [HM.out]; exact hlt
      obtain ⟨bb, o, rfl, hs⟩ : ∃ b o, p2 = some ⟨b, o, none⟩ ∧ FsAt w2 b o l2 := by
        rcases HV.out with h | h
        · omega
        · exact h
      have q1 := HE.out.cell (hs k hkl).1
      have q2 := HE.out.cell (hs k hkl).2
      have hsk := hs k hkl
      have hnx := withTo_next (n, s) l2 k hkl
      rw [HT.out] at hnx
      generalize l2[k] = x at *
      obtain ⟨a, t⟩ := x
      simp only at q1 q2 hnx hsk
      have hj2 : j ≤ k + 1 := by have := hjk; cases b <;> simp at this <;> omega
      have hlt2 : Op.bytesLess n.toList a.toList = DK.lt n a := bytesLess_lt n a
      have p0 := cell_ext q1
      have p1 := cell_ext q2
      have p2 := cell_ext x0
      have p3 := cell_ext x1
      cases b with
      | true =>
        rw [if_neg (by simp)] at hnx
        have HNX := Lib.hid hnx
        clear hs hsk hnx hlt2
        go_wp2
        refine wp_region_quiet_ext (by kernel_rfl) (by kernel_rfl) ?_
        repeat (go_big_quiet_step (first | fail))
        refine wpQuiet_nil ?_
        intro w5 g5
        have HE5 := Lib.hid (HE.out.trans g5)
        have HR5 := Lib.hid (row_to HR.out g5)
        have r1 := g5.cell q1
        have r2 := g5.cell q2
        have y0 := g5.cell x0
        have y1 := g5.cell x1
        clear g5 q1 q2 x0 x1 p0 p1 p2 p3
        have HRx := Lib.hid (row_to HR5.out ((Ext.refl _).alloc (.cells #[.string a, .string t] 83)))
        have HEx := Lib.hid (HE5.out.alloc (.cells #[.string a, .string t] 83))
        have hbx := HEx.out.size
        have b1 : j + 1 ≤ maxLen := by unfold maxLen; omega
        have b2 : (j + 1) * 32 ≤ 140737488355328 := by omega
        go_wp2_with (at_builtin; refine wpList_append_lies _ rfl _ _ 41 rfl w2.heap.size 83 i0 (.agg #[.string ByteArray.empty, .string ByteArray.empty]) 2 32 Try.underlying41 Hi.out hz0 hz1 hz2 rfl (by decide) _ (j) _ rfl HRx.out ⟨_, 0, none⟩ 1 1 [.string a, .string t] rfl rfl (two_new _ _ _ _) (by intro u hu; simp at hu; rcases hu with rfl | rfl <;> rfl) (by decide) b1 b2 hbx _ rfl ?_; intro g cap hw6 hown hgrow hat hgl; have HW6 := Lib.hid hown; have HE6 := Lib.hid (ext_grownV HEx.out HRx.out hgrow (Nat.le_refl _)); clear hown hgrow hat)
        go_roundw
        case rel => exact ⟨k + 1, j + 1, some ⟨g, 0, none⟩, cap, true, O ++ [(a, t)], by omega, by go_num, rfl, rfl, by have := hjk; simp at this ⊢; omega, Lib.hid HNX.out, Lib.hid (by rw [List.length_append, HJ.out]; rfl), Lib.hid (by have h6 := HW6.out; rw [fCells_snoc] at h6; exact h6), HE6⟩
        case measure => simp [intOf]; omega
      | false =>
        cases hll : DK.lt n a with
        | false =>
          rw [hll] at hnx hlt2
          rw [if_neg (by simp)] at hnx
          have HNX := Lib.hid hnx
          clear hs hsk hnx hll
          go_wp2
          refine wp_region_quiet_ext (by kernel_rfl) (by kernel_rfl) ?_
          repeat (go_big_quiet_step (first | fail))
          refine wpQuiet_nil ?_
          intro w5 g5
          have HE5 := Lib.hid (HE.out.trans g5)
          have HR5 := Lib.hid (row_to HR.out g5)
          have r1 := g5.cell q1
          have r2 := g5.cell q2
          have y0 := g5.cell x0
          have y1 := g5.cell x1
          clear g5 q1 q2 x0 x1 p0 p1 p2 p3
          have HRx := Lib.hid (row_to HR5.out ((Ext.refl _).alloc (.cells #[.string a, .string t] 83)))
          have HEx := Lib.hid (HE5.out.alloc (.cells #[.string a, .string t] 83))
          have hbx := HEx.out.size
          have b1 : j + 1 ≤ maxLen := by unfold maxLen; omega
          have b2 : (j + 1) * 32 ≤ 140737488355328 := by omega
          go_wp2_with (at_builtin; refine wpList_append_lies _ rfl _ _ 41 rfl w2.heap.size 83 i0 (.agg #[.string ByteArray.empty, .string ByteArray.empty]) 2 32 Try.underlying41 Hi.out hz0 hz1 hz2 rfl (by decide) _ (j) _ rfl HRx.out ⟨_, 0, none⟩ 1 1 [.string a, .string t] rfl rfl (two_new _ _ _ _) (by intro u hu; simp at hu; rcases hu with rfl | rfl <;> rfl) (by decide) b1 b2 hbx _ rfl ?_; intro g cap hw6 hown hgrow hat hgl; have HW6 := Lib.hid hown; have HE6 := Lib.hid (ext_grownV HEx.out HRx.out hgrow (Nat.le_refl _)); clear hown hgrow hat)
          go_roundw
          case rel => exact ⟨k + 1, j + 1, some ⟨g, 0, none⟩, cap, false, O ++ [(a, t)], by omega, by go_num, rfl, rfl, by have := hjk; simp at this ⊢; omega, Lib.hid HNX.out, Lib.hid (by rw [List.length_append, HJ.out]; rfl), Lib.hid (by have h6 := HW6.out; rw [fCells_snoc] at h6; exact h6), HE6⟩
          case measure => simp [intOf]; omega
        | true =>
          rw [hll] at hnx hlt2
          rw [if_pos ⟨rfl, rfl⟩] at hnx
          have HNX := Lib.hid hnx
          have HS := Lib.hid hsk
          clear hs hsk hnx hll
          go_wp2
          refine wp_region_quiet_ext (by kernel_rfl) (by kernel_rfl) ?_
          repeat (go_big_quiet_step (first | fail))
          refine wpQuiet_nil ?_
          intro w5 g5
          have HE5 := Lib.hid (HE.out.trans g5)
          have HR5 := Lib.hid (row_to HR.out g5)
          have r1 := g5.cell q1
          have r2 := g5.cell q2
          have y0 := g5.cell x0
          have y1 := g5.cell x1
          clear g5 q1 q2 x0 x1 p0 p1 p2 p3
          have HRx := Lib.hid (row_to HR5.out ((Ext.refl _).alloc (.cells #[.string n, .string s] 83)))
          have HEx := Lib.hid (HE5.out.alloc (.cells #[.string n, .string s] 83))
          have hbx := HEx.out.size
          have b1 : j + 1 ≤ maxLen := by unfold maxLen; omega
          have b2 : (j + 1) * 32 ≤ 140737488355328 := by omega
          go_upto_region 10 with (at_builtin; refine wpList_append_lies _ rfl _ _ 41 rfl w2.heap.size 83 i0 (.agg #[.string ByteArray.empty, .string ByteArray.empty]) 2 32 Try.underlying41 Hi.out hz0 hz1 hz2 rfl (by decide) _ (j) _ rfl HRx.out ⟨_, 0, none⟩ 1 1 [.string n, .string s] rfl rfl (two_new _ _ _ _) (by intro u hu; simp at hu; rcases hu with rfl | rfl <;> rfl) (by decide) b1 b2 hbx _ rfl ?_; intro g cap hw6 hown hgrow hat hgl; have HW6 := Lib.hid hown; have HE6 := Lib.hid (ext_grownV HEx.out HRx.out hgrow (Nat.le_refl _)); clear hown hgrow hat)
          clear HRx HEx hbx b1 b2 r1 r2 y0 y1 HE5 HR5
          have hw6r := HW6.out
          rw [fCells_snoc] at hw6r
          have HR6 := Lib.hid hw6r
          have r1 := HE6.out.cell HS.out.1
          have r2 := HE6.out.cell HS.out.2
          clear hw6r
          have HRx := Lib.hid (row_to HR6.out ((Ext.refl _).alloc (.cells #[.string a, .string t] 83)))
          have HEx := Lib.hid (HE6.out.alloc (.cells #[.string a, .string t] 83))
          have hbx := HEx.out.size
          have b1 : j + 1 + 1 ≤ maxLen := by unfold maxLen; omega
          have b2 : (j + 1 + 1) * 32 ≤ 140737488355328 := by omega
          go_wp2_with (at_builtin; refine wpList_append_lies _ rfl _ _ 41 rfl w2.heap.size 83 i0 (.agg #[.string ByteArray.empty, .string ByteArray.empty]) 2 32 Try.underlying41 Hi.out hz0 hz1 hz2 rfl (by decide) _ (j + 1) _ rfl HRx.out ⟨_, 0, none⟩ 1 1 [.string a, .string t] rfl rfl (two_new _ _ _ _) (by intro u hu; simp at hu; rcases hu with rfl | rfl <;> rfl) (by decide) b1 b2 hbx _ rfl ?_; intro g2 cap2 hw7 hown hgrow hat hgl; have HW7 := Lib.hid hown; have HE7 := Lib.hid (ext_grownV HEx.out HRx.out hgrow (Nat.le_refl _)); clear hown hgrow hat)
          go_roundw
          case rel => exact ⟨k + 1, j + 1 + 1, some ⟨g2, 0, none⟩, cap2, true, O ++ [(n, s), (a, t)], by omega, by go_num, rfl, rfl, by have := hjk; simp at this ⊢; omega, Lib.hid HNX.out, Lib.hid (by rw [List.length_append, HJ.out]; rfl), Lib.hid (by have h6 := HW7.out; rw [fCells_snoc, List.append_assoc] at h6; exact h6), HE7⟩
          case measure => simp [intOf]; omega
    · obtain rfl : k = m := by omega
      have ht : l2.take k = l2 := List.take_of_length_le (by rw [HM.out]; exact Nat.le_refl _)
      have htt := HT.out
      rw [ht] at htt
      have hend := withTo_end (n, s) l2
      rw [htt] at hend
      have hj2 : j ≤ k + 1 := by have := hjk; cases b <;> simp at this <;> omega
      clear ht htt
      cases b with
      | true =>
        simp only [if_true] at hend
        have HEND := Lib.hid hend
        clear hend x0 x1
        go_wp2
        go_ret
        exact ⟨_, rfl, by rw [HEND.out]; exact row_files HR.out HJ.out (by omega), HX2.out.trans HE.out, (row_new HR.out).from_ HX2.out⟩
      | false =>
        simp only [Bool.false_eq_true, if_false] at hend
        have HEND := Lib.hid hend
        clear hend
        have HRx := Lib.hid (row_to HR.out ((Ext.refl _).alloc (.cells #[.string n, .string s] 83)))
        have HEx := Lib.hid (HE.out.alloc (.cells #[.string n, .string s] 83))
        have hbx := HEx.out.size
        have b1 : j + 1 ≤ maxLen := by unfold maxLen; omega
        have b2 : (j + 1) * 32 ≤ 140737488355328 := by omega
        go_wp2_with (at_builtin; refine wpList_append_lies _ rfl _ _ 41 rfl w2.heap.size 83 i0 (.agg #[.string ByteArray.empty, .string ByteArray.empty]) 2 32 Try.underlying41 Hi.out hz0 hz1 hz2 rfl (by decide) _ (j) _ rfl HRx.out ⟨_, 0, none⟩ 1 1 [.string n, .string s] rfl rfl (two_new _ _ _ _) (by intro u hu; simp at hu; rcases hu with rfl | rfl <;> rfl) (by decide) b1 b2 hbx _ rfl ?_; intro g cap hw6 hown hgrow hat hgl; have HW6 := Lib.hid hown; have HE6 := Lib.hid (ext_grownV HEx.out HRx.out hgrow (Nat.le_refl _)); clear hown hgrow hat)
        go_ret
        exact ⟨_, rfl, by rw [HEND.out]; exact row_files (by have h6 := HW6.out; rw [fCells_snoc] at h6; exact h6) (by rw [List.length_append, HJ.out]; rfl) (by omega), HX2.out.trans HE6.out, (row_new HW6.out).from_ HX2.out⟩
end Go.Proofs.Ytfegfbhchdfibaa
