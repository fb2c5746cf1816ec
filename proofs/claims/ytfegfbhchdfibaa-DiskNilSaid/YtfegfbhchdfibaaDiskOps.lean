/- What the disk's Cut, Move and Drop answer, and what they leave. -/
import Derived.Test.YtfegfbhchdfibaaDiskWr
namespace Go.Proofs.Ytfegfbhchdfibaa
open Go.RowKit

namespace DK
/-- A step is taken, if nothing speaks against it. -/
noncomputable def did (d : D) (e : Int) (st : Step) : D × Int := if e ≠ 0 then (d, e) else (took d st, if (took d st).dead = true then 10 else 0)
noncomputable def cut (d : D) (name : ByteArray) (n : Int) : D × Int :=
  if thereE d [name] name ≠ 0 then (d, thereE d [name] name) else if n < 0 ∨ ((get d.now name).size : Int) < n then (d, 2) else did d 0 (.cut name n.toNat)
noncomputable def move (d : D) (a b : ByteArray) : D × Int := did d (thereE d [b, a] a) (.move a b)
noncomputable def drop (d : D) (a : ByteArray) : D × Int := did d (thereE d [a] a) (.drop a)
theorem there_live {d : D} {l : List ByteArray} {n : ByteArray} (h : thereE d l n = 0) : d.dead = false := by
  cases hd : d.dead with
  | false => rfl
  | true =>
    unfold thereE mayE at h
    rw [hd] at h
    simp at h
end DK

theorem do_cut {w : World} {S : Nat → Prop} {B1 B2 : Nat} {n : ByteArray} {k : Nat} (h1 : Box w B1 9 (.string n)) (h2 : Box w B2 3 (.int .i64 k)) (n1 : ¬ S B1) (n2 : ¬ S B2) :
    DoV w S (.func (.func 32) #[] #[.pointer (some ⟨B1, 0, none⟩), .pointer (some ⟨B2, 0, none⟩)]) (.cut n k) :=
  ⟨_, _, rfl, enters_of Try.func32 (by kernel_rfl) rfl, fun W hW b m hf hok hs => step_cut B1 B2 b m n k W (hW.box h1 n1) (hW.box h2 n2) hf hok hs⟩
theorem do_move {w : World} {S : Nat → Prop} {B1 B2 : Nat} {n z : ByteArray} (h1 : Box w B1 9 (.string n)) (h2 : Box w B2 9 (.string z)) (n1 : ¬ S B1) (n2 : ¬ S B2) :
    DoV w S (.func (.func 33) #[] #[.pointer (some ⟨B1, 0, none⟩), .pointer (some ⟨B2, 0, none⟩)]) (.move n z) :=
  ⟨_, _, rfl, enters_of Try.func33 (by kernel_rfl) rfl, fun W hW b m hf hok hs => step_move B1 B2 b m n z W (hW.box h1 n1) (hW.box h2 n2) hf hok hs⟩
theorem do_drop {w : World} {S : Nat → Prop} {B1 : Nat} {n : ByteArray} (h1 : Box w B1 9 (.string n)) (n1 : ¬ S B1) :
    DoV w S (.func (.func 34) #[] #[.pointer (some ⟨B1, 0, none⟩)]) (.drop n) :=
  ⟨_, _, rfl, enters_of Try.func34 (by kernel_rfl) rfl, fun W hW b m hf hok _ => step_drop B1 b m n W (hW.box h1 n1) hf hok⟩
theorem torn_none {w : World} {S : Nat → Prop} {st : DK.Step} (h : ∀ t, DK.torn t st = none) : TornV w S .nilFunc st := .inl ⟨h, rfl⟩
theorem row_none (w : World) (base : Nat) : w.ownsRow base 9 1 (.slice none 0 0) 0 (([] : List ByteArray).map Value.string) := World.ownsRow_nil _ _ _ _
theorem row_one (w : World) (s : ByteArray) : (w.alloc (.cells #[.string s] 9)).ownsRow w.heap.size 9 1 (.slice (some ⟨w.heap.size, 0, none⟩) 1 1) 1 ([s].map Value.string) :=
  ⟨rfl, .inr ⟨_, 1, #[.string s], rfl, Nat.le_refl _, heap_alloc_new _ _, Nat.le_refl _, by unfold maxLen; omega, rfl, rfl⟩⟩

set_option maxRecDepth 100000 in
theorem drop_nil (name : ByteArray) (w : World) : Calls Try.prog 13 #[.pointer none, .string name] w fun e w' => e = .returned (.int .i64 10) ∧ Ext w w' := by
  have x1 := (Ext.refl w).alloc (.cells #[.string name] 9)
  have c1 : (w.alloc (.cells #[.string name] 9)).cell? ⟨w.heap.size, 0, none⟩ = some (.string name) := alloc_cell w _ _ 0
  have HT := Lib.hid (there_nil none 0 0 [] rfl (by omega) name _ _ (Ext.refl (w.alloc (.cells #[.string name] 9))) (row_none _ _))
  go_enter Try.func13, Try.ntmps13
  go_wp2_with fail
  refine HT.out.mono ?_
  rintro e w' ⟨rfl, g⟩
  go_wp2
  go_ret
  exact ⟨rfl, x1.trans g⟩
set_option maxRecDepth 100000 in
theorem cut_nil (name : ByteArray) (n : Int) (w : World) : Calls Try.prog 11 #[.pointer none, .string name, .int .i64 n] w fun e w' => e = .returned (.int .i64 10) ∧ Ext w w' := by
  have x1 := ((Ext.refl w).alloc (.cells #[.string name] 9)).alloc (.cells #[.int .i64 n] 3)
  have c1 : ((w.alloc (.cells #[.string name] 9)).alloc (.cells #[.int .i64 n] 3)).cell? ⟨w.heap.size, 0, none⟩ = some (.string name) := ((Ext.refl _).alloc _).cell (alloc_cell w _ _ 0)
  have HT := Lib.hid (there_nil none 0 0 [] rfl (by omega) name _ _ (Ext.refl ((w.alloc (.cells #[.string name] 9)).alloc (.cells #[.int .i64 n] 3))) (row_none _ _))
  go_enter Try.func11, Try.ntmps11
  go_wp2_with fail
  refine HT.out.mono ?_
  rintro e w' ⟨rfl, g⟩
  go_wp2
  go_ret
  exact ⟨rfl, x1.trans g⟩
set_option maxRecDepth 100000 in
theorem move_nil (name z : ByteArray) (w : World) : Calls Try.prog 12 #[.pointer none, .string name, .string z] w fun e w' => e = .returned (.int .i64 10) ∧ Ext w w' := by
  have x1 := ((Ext.refl w).alloc (.cells #[.string name] 9)).alloc (.cells #[.string z] 9)
  have c1 : ((w.alloc (.cells #[.string name] 9)).alloc (.cells #[.string z] 9)).cell? ⟨w.heap.size, 0, none⟩ = some (.string name) := ((Ext.refl _).alloc _).cell (alloc_cell w _ _ 0)
  have hs1 : (w.alloc (.cells #[.string name] 9)).heap.size = w.heap.size + 1 := World.size_alloc _ _
  have c2 : ((w.alloc (.cells #[.string name] 9)).alloc (.cells #[.string z] 9)).cell? ⟨w.heap.size + 1, 0, none⟩ = some (.string z) := by rw [← hs1]; exact alloc_cell _ _ _ 0
  obtain ⟨w2, hw2⟩ : ∃ W, (w.alloc (.cells #[.string name] 9)).alloc (.cells #[.string z] 9) = W := ⟨_, rfl⟩
  rw [hw2] at c1 c2 x1
  have HT := Lib.hid (there_nil _ 1 1 [z] rfl (by omega) name w2 _ ((Ext.refl w2).alloc _) (row_one w2 z))
  clear hs1
  have HX := Lib.hid x1
  clear x1
  go_enter Try.func12, Try.ntmps12
  go_upto_region 1 with fail
  go_wp2_with fail
  refine HT.out.mono ?_
  rintro e w' ⟨rfl, g⟩
  go_wp2
  go_ret
  exact ⟨rfl, HX.out.trans g⟩

set_option maxRecDepth 100000 in
set_option maxHeartbeats 1000000 in
theorem disk_drop {w : World} {S : Nat → Prop} {B : Nat} {d : DK.D} {N : Nat} (h : DiskAt w S B d) (hgd : DK.Good N d) (name : ByteArray) (hN : N + name.size + 2 ≤ 1073741824) :
    Calls Try.prog 13 #[.pointer (some ⟨B, 0, none⟩), .string name] w fun e w' => e = .returned (.int .i64 (DK.drop d name).2) ∧ Left w S B (DK.drop d name).1 w' := by
  have x1 := (Ext.refl w).alloc (.cells #[.string name] 9)
  have c1 : (w.alloc (.cells #[.string name] 9)).cell? ⟨w.heap.size, 0, none⟩ = some (.string name) := alloc_cell w _ _ 0
  have hth := disk_there (h.ext x1) (Ext.refl _) none 0 0 [] rfl (by omega) name (row_none _ _) (fun s hs => by simp at hs; subst hs; omega)
  have hdr : DK.drop d name = DK.did d (DK.thereE d [name] name) (.drop name) := rfl
  rw [List.nil_append] at hth
  have hlv := DK.there_live (d := d) (l := [name]) (n := name)
  generalize DK.thereE d [name] name = e0 at *
  have hdid : DK.did d e0 (.drop name) = if e0 ≠ 0 then (d, e0) else (DK.took d (.drop name), if (DK.took d (.drop name)).dead = true then 10 else 0) := rfl
  rw [hdid] at hdr
  obtain ⟨r, hr⟩ : ∃ r, DK.drop d name = r := ⟨_, rfl⟩
  rw [hr] at hdr ⊢
  have HR := Lib.hid hdr
  have HT := Lib.hid hth
  have HLV := Lib.hid hlv
  have HH := Lib.hid h
  have HG := Lib.hid hgd
  have HX := Lib.hid x1
  have HB := Lib.hid (Box.new w 9 (.string name))
  clear hr hdr hdid hth hlv h hgd x1
  go_enter Try.func13, Try.ntmps13
  go_wp2_with fail
  refine HT.out.mono ?_
  rintro e w2 ⟨rfl, g2⟩
  have HX2 := Lib.hid (HX.out.trans g2)
  have HB2 := Lib.hid (HB.out.ext g2)
  clear g2
  by_cases h0 : e0 = 0
  · subst h0
    have hl := HLV.out rfl
    obtain ⟨bs, bn, v, hi⟩ := HH.out
    have htk := disk_took (HH.out.ext HX2.out) _ _ (.drop name) (do_drop HB2.out (fun hs => by have := hi.lt _ hs; omega)) (torn_none fun _ => rfl) (show name.size ≤ 2199023255552 by omega) (HG.out.nowS.mono (by omega)) (by have := HG.out.len; omega) hl (fun e => HG.out.fuse e hl)
    obtain ⟨q, hq⟩ : ∃ q : Int, (if (DK.took d (.drop name)).dead = true then 10 else 0) = q := ⟨_, rfl⟩
    rw [hq] at htk
    have HQ := Lib.hid hq
    have HTK := Lib.hid htk
    clear htk hq hi
    go_wp2_with fail
    refine HTK.out.mono ?_
    rintro e w3 ⟨rfl, hleft⟩
    have HLF := Lib.hid hleft
    clear hleft
    go_wp2
    go_ret
    have hf := HR.out
    rw [if_neg (by simp), HQ.out] at hf
    rw [hf]
    exact ⟨rfl, Left.from_ HX2.out HLF.out⟩
  · have h1 : (e0 != 0) = true := by rw [bne_iff_ne]; exact h0
    go_wp2
    go_ret
    have hf := HR.out
    rw [if_pos h0] at hf
    rw [hf]
    exact ⟨rfl, Left.same HH.out HX2.out⟩

set_option maxRecDepth 100000 in
set_option maxHeartbeats 1000000 in
theorem disk_move {w : World} {S : Nat → Prop} {B : Nat} {d : DK.D} {N : Nat} (h : DiskAt w S B d) (hgd : DK.Good N d) (name z : ByteArray) (hN : N + name.size + z.size + 2 ≤ 1073741824) :
    Calls Try.prog 12 #[.pointer (some ⟨B, 0, none⟩), .string name, .string z] w fun e w' => e = .returned (.int .i64 (DK.move d name z).2) ∧ Left w S B (DK.move d name z).1 w' := by
  have x1 := ((Ext.refl w).alloc (.cells #[.string name] 9)).alloc (.cells #[.string z] 9)
  have b1 := (Box.new w 9 (.string name)).ext ((Ext.refl _).alloc (.cells #[.string z] 9))
  have hs1 : (w.alloc (.cells #[.string name] 9)).heap.size = w.heap.size + 1 := World.size_alloc _ _
  have b2 := Box.new (w.alloc (.cells #[.string name] 9)) 9 (.string z)
  rw [hs1] at b2
  obtain ⟨w2, hw2⟩ : ∃ W, (w.alloc (.cells #[.string name] 9)).alloc (.cells #[.string z] 9) = W := ⟨_, rfl⟩
  rw [hw2] at b1 b2 x1
  have c1 := b1.c
  have c2 := b2.c
  have hth := disk_there (h.ext x1) ((Ext.refl w2).alloc _) _ 1 1 [z] rfl (by omega) name (row_one w2 z) (fun s hs => by simp at hs; rcases hs with rfl | rfl <;> omega)
  have hdr : DK.move d name z = DK.did d (DK.thereE d [z, name] name) (.move name z) := rfl
  rw [show [z] ++ [name] = [z, name] from rfl] at hth
  have hlv := DK.there_live (d := d) (l := [z, name]) (n := name)
  generalize DK.thereE d [z, name] name = e0 at *
  have hdid : DK.did d e0 (.move name z) = if e0 ≠ 0 then (d, e0) else (DK.took d (.move name z), if (DK.took d (.move name z)).dead = true then 10 else 0) := rfl
  rw [hdid] at hdr
  obtain ⟨r, hr⟩ : ∃ r, DK.move d name z = r := ⟨_, rfl⟩
  rw [hr] at hdr ⊢
  have HR := Lib.hid hdr
  have HT := Lib.hid hth
  have HLV := Lib.hid hlv
  have HH := Lib.hid h
  have HG := Lib.hid hgd
  have HX := Lib.hid x1
  have HB1 := Lib.hid b1
  have HB2 := Lib.hid b2
  clear hr hdr hdid hth hlv h hgd x1 hs1 b1 b2
  go_enter Try.func12, Try.ntmps12
  go_upto_region 1 with fail
  go_wp2_with fail
  refine HT.out.mono ?_
  rintro e w3 ⟨rfl, g2⟩
  have HX2 := Lib.hid (HX.out.trans g2)
  have D1 := Lib.hid (HB1.out.ext g2)
  have D2 := Lib.hid (HB2.out.ext g2)
  clear g2
  by_cases h0 : e0 = 0
  case neg =>
    have h1 : (e0 != 0) = true := by rw [bne_iff_ne]; exact h0
    go_wp2
    go_ret
    have hf := HR.out
    rw [if_pos h0] at hf
    rw [hf]
    exact ⟨rfl, Left.same HH.out HX2.out⟩
  case pos =>
  subst h0
  have hl := HLV.out rfl
  obtain ⟨bs, bn, v, hi⟩ := HH.out
  have htk := disk_took (HH.out.ext HX2.out) _ _ (.move name z) (do_move D1.out D2.out (fun hs => by have := hi.lt _ hs; omega) (fun hs => by have := hi.lt _ hs; omega)) (torn_none fun _ => rfl) ⟨show name.size ≤ 2199023255552 by omega, show z.size ≤ 2199023255552 by omega⟩ (HG.out.nowS.mono (by omega)) (by have := HG.out.len; omega) hl (fun e => HG.out.fuse e hl)
  obtain ⟨q, hq⟩ : ∃ q : Int, (if (DK.took d (.move name z)).dead = true then 10 else 0) = q := ⟨_, rfl⟩
  rw [hq] at htk
  have HQ := Lib.hid hq
  have HTK := Lib.hid htk
  clear htk hq hi
  go_wp2_with fail
  refine HTK.out.mono ?_
  rintro e w4 ⟨rfl, hleft⟩
  have HLF := Lib.hid hleft
  clear hleft
  go_wp2
  go_ret
  have hf := HR.out
  rw [if_neg (by simp), HQ.out] at hf
  rw [hf]
  exact ⟨rfl, Left.from_ HX2.out HLF.out⟩

set_option maxRecDepth 100000 in
set_option maxHeartbeats 1000000 in
theorem disk_cut {w : World} {S : Nat → Prop} {B : Nat} {d : DK.D} {N : Nat} (h : DiskAt w S B d) (hgd : DK.Good N d) (name : ByteArray) (n : Int) (hN : N + name.size + 2 ≤ 1073741824) :
    Calls Try.prog 11 #[.pointer (some ⟨B, 0, none⟩), .string name, .int .i64 n] w fun e w' => e = .returned (.int .i64 (DK.cut d name n).2) ∧ Left w S B (DK.cut d name n).1 w' := by
  have x1 := ((Ext.refl w).alloc (.cells #[.string name] 9)).alloc (.cells #[.int .i64 n] 3)
  have b1 := (Box.new w 9 (.string name)).ext ((Ext.refl _).alloc (.cells #[.int .i64 n] 3))
  have hs1 : (w.alloc (.cells #[.string name] 9)).heap.size = w.heap.size + 1 := World.size_alloc _ _
  have b2 := Box.new (w.alloc (.cells #[.string name] 9)) 3 (.int .i64 n)
  rw [hs1] at b2
  obtain ⟨w2, hw2⟩ : ∃ W, (w.alloc (.cells #[.string name] 9)).alloc (.cells #[.int .i64 n] 3) = W := ⟨_, rfl⟩
  rw [hw2] at b1 b2 x1
  have c1 := b1.c
  have c2 := b2.c
  have hth := disk_there (h.ext x1) (Ext.refl w2) none 0 0 [] rfl (by omega) name (row_none _ _) (fun s hs => by simp at hs; subst hs; omega)
  rw [List.nil_append] at hth
  have hdr : DK.cut d name n = if DK.thereE d [name] name ≠ 0 then (d, DK.thereE d [name] name) else if n < 0 ∨ ((DK.get d.now name).size : Int) < n then (d, 2) else DK.did d 0 (.cut name n.toNat) := rfl
  have hlv := DK.there_live (d := d) (l := [name]) (n := name)
  generalize DK.thereE d [name] name = e0 at *
  obtain ⟨r, hr⟩ : ∃ r, DK.cut d name n = r := ⟨_, rfl⟩
  rw [hr] at hdr ⊢
  have HR := Lib.hid hdr
  have HT := Lib.hid hth
  have HLV := Lib.hid hlv
  have HH := Lib.hid h
  have HG := Lib.hid hgd
  have HX := Lib.hid x1
  have HB1 := Lib.hid b1
  have HB2 := Lib.hid b2
  clear hr hdr hth hlv h hgd x1 hs1 b1 b2
  go_enter Try.func11, Try.ntmps11
  go_upto_region 1 with fail
  go_wp2_with fail
  refine HT.out.mono ?_
  rintro e w3 ⟨rfl, g2⟩
  have HX2 := Lib.hid (HX.out.trans g2)
  have D1 := Lib.hid (HB1.out.ext g2)
  have D2 := Lib.hid (HB2.out.ext g2)
  clear g2
  by_cases h0 : e0 = 0
  case neg =>
    have h1 : (e0 != 0) = true := by rw [bne_iff_ne]; exact h0
    go_wp2
    go_ret
    have hf := HR.out
    rw [if_pos h0] at hf
    rw [hf]
    exact ⟨rfl, Left.same HH.out HX2.out⟩
  case pos =>
  subst h0
  have hl := HLV.out rfl
  obtain ⟨bs, bn, v, hi⟩ := HH.out
  have q0 := cell_ext D1.out.c
  have q1 := cell_ext D2.out.c
  have q2 := cell_ext (HX2.out.cell hi.cells.c2)
  have hlook := fun (p : ExtOf w3) => (hi.now.ext (HX2.out.trans p.ext)).look name (by unfold maxLen; omega)
  have hfd := field_file
  obtain ⟨was, hwas⟩ : ∃ x, DK.get d.now name = x := ⟨_, rfl⟩
  rw [hwas] at hlook
  have HWAS := Lib.hid hwas
  have HI := Lib.hid hi
  have HL := Lib.hid hl
  clear hwas hi hl
  by_cases hat : n < 0 ∨ (was.size : Int) < n
  · by_cases hneg : n < 0
    · have k1 : decide (n < 0) = true := decide_eq_true hneg
      go_wp2
      refine wp_region_quiet_ext (by kernel_rfl) (by kernel_rfl) ?_
      repeat (go_big_quiet_step ((first | fail)))
      refine wpQuiet_nil ?_
      intro w6 g6
      go_wp2
      go_ret
      have hf := HR.out
      rw [if_neg (by simp), HWAS.out, if_pos hat] at hf
      rw [hf]
      exact ⟨rfl, Left.same HH.out (HX2.out.trans g6)⟩
    · have k1 : decide (n < 0) = false := decide_eq_false hneg
      have k2 : decide ((was.size : Int) < n) = true := decide_eq_true (by omega)
      go_wp2
      refine wp_region_quiet_ext (by kernel_rfl) (by kernel_rfl) ?_
      repeat (go_big_quiet_step ((first | fail)))
      refine wpQuiet_nil ?_
      intro w6 g6
      go_wp2
      go_ret
      have hf := HR.out
      rw [if_neg (by simp), HWAS.out, if_pos hat] at hf
      rw [hf]
      exact ⟨rfl, Left.same HH.out (HX2.out.trans g6)⟩
  · obtain ⟨k, hk⟩ : ∃ k : Nat, n = (k : Int) := ⟨n.toNat, by omega⟩
    subst hk
    have k1 : decide ((k : Int) < 0) = false := decide_eq_false (by omega)
    have k2 : decide ((was.size : Int) < k) = false := decide_eq_false (by omega)
    have hkw : k ≤ was.size := by omega
    have HAT := Lib.hid hat
    clear hat
    go_wp2
    refine wp_region_quiet_ext (by kernel_rfl) (by kernel_rfl) ?_
    repeat (go_big_quiet_step ((first | fail)))
    refine wpQuiet_nil ?_
    intro w6 g6
    have X6 := Lib.hid (HX2.out.trans g6)
    have E1 := Lib.hid (D1.out.ext g6)
    have E2 := Lib.hid (D2.out.ext g6)
    clear g6 q0 q1 q2 hlook k1 k2
    have htk := disk_took (HH.out.ext X6.out) _ _ (.cut name k) (do_cut E1.out E2.out (fun hs => by have := HI.out.lt _ hs; omega) (fun hs => by have := HI.out.lt _ hs; omega)) (torn_none fun _ => rfl) ⟨by rw [HWAS.out]; exact hkw, show name.size ≤ 2199023255552 by omega⟩ (HG.out.nowS.mono (by omega)) (by have := HG.out.len; omega) HL.out (fun e => HG.out.fuse e HL.out)
    obtain ⟨q, hq⟩ : ∃ q : Int, (if (DK.took d (.cut name k)).dead = true then 10 else 0) = q := ⟨_, rfl⟩
    rw [hq] at htk
    have HQ := Lib.hid hq
    have HTK := Lib.hid htk
    clear htk hq
    go_wp2_with fail
    refine HTK.out.mono ?_
    rintro e w4 ⟨rfl, hleft⟩
    have HLF := Lib.hid hleft
    clear hleft
    go_wp2
    go_ret
    have hf := HR.out
    rw [if_neg (by simp), HWAS.out, if_neg HAT.out] at hf
    have hd : DK.did d 0 (.cut name ((k : Int)).toNat) = (DK.took d (.cut name k), if (DK.took d (.cut name k)).dead = true then 10 else 0) := rfl
    rw [hd, HQ.out] at hf
    rw [hf]
    exact ⟨rfl, Left.from_ X6.out HLF.out⟩
end Go.Proofs.Ytfegfbhchdfibaa
