/- What the disk's Cut, Move and Drop answer, and what they leave. -/
import Derived.Test.YtfegfbhchdfibaaDiskWr
namespace Go.Proofs.Ytfegfbhchdfibaa
open Go.RowKit

namespace DK
noncomputable def thereE (d : D) (l : List ByteArray) (name : ByteArray) : Int := if mayE d.dead l = 0 then (if has d.now name = true then 0 else 3) else mayE d.dead l
end DK

set_option maxRecDepth 100000 in
set_option maxHeartbeats 1000000 in
theorem step_cut (B1 B2 b : Nat) (m : DK.Files) (n : ByteArray) (k : Nat) (w : World) (h1 : Box w B1 9 (.string n)) (h2 : Box w B2 3 (.int .i64 k)) (h : FilesAt w b m) (hok : DK.okS m (.cut n k)) (hs : DK.Small 1073741824 m) :
    Calls Try.prog 32 #[.map (some b), .pointer (some ⟨B1, 0, none⟩), .pointer (some ⟨B2, 0, none⟩)] w fun e w' => e = .returned (.tuple #[]) ∧ FilesAt w' b (DK.doS m (.cut n k)) ∧ w.grownBy w' (some b) := by
  obtain ⟨hk, hn1⟩ := hok
  have hlook := (h.ext (Ext.refl w).drew).look n (by unfold maxLen; omega)
  have hws := hs.get n
  have hlen := hs.1
  have hdo : DK.doS m (.cut n k) = DK.put m n ((DK.get m n).extract 0 k) := rfl
  rw [hdo]
  generalize DK.get m n = was at *
  obtain ⟨w', hrun, hf, hg⟩ := (h.ext (Ext.refl w).drew).store n (was.extract 0 k) (by unfold maxLen; omega) (by unfold maxLen; omega)
  have HF := Lib.hid hf
  have HG := Lib.hid hg
  have hfd := field_file
  have c1 := h1.c
  have c2 := h2.c
  clear hdo hf hg
  go_enter Try.func32, Try.ntmps32
  go_wp2
  refine wp_region_noPanic ?_
  go_region
  refine NoPanic.normal ?_
  go_end0
  exact ⟨rfl, HF.out, grown_drew HG.out⟩

set_option maxRecDepth 100000 in
theorem step_drop (B1 b : Nat) (m : DK.Files) (n : ByteArray) (w : World) (h1 : Box w B1 9 (.string n)) (h : FilesAt w b m) (hok : DK.okS m (.drop n)) :
    Calls Try.prog 34 #[.map (some b), .pointer (some ⟨B1, 0, none⟩)] w fun e w' => e = .returned (.tuple #[]) ∧ FilesAt w' b (DK.doS m (.drop n)) ∧ w.grownBy w' (some b) := by
  have hn1 : n.size ≤ 2199023255552 := hok
  obtain ⟨w', hrun, hf, hg⟩ := h.drop n (by unfold maxLen; omega) 0
  have c1 := h1.c
  have HF := Lib.hid hf
  have HG := Lib.hid hg
  clear hf hg
  go_enter Try.func34, Try.ntmps34
  go_wp2
  go_end0
  exact ⟨rfl, HF.out, HG.out⟩

set_option maxRecDepth 100000 in
set_option maxHeartbeats 1000000 in
theorem step_move (B1 B2 b : Nat) (m : DK.Files) (n dst : ByteArray) (w : World) (h1 : Box w B1 9 (.string n)) (h2 : Box w B2 9 (.string dst)) (h : FilesAt w b m) (hok : DK.okS m (.move n dst)) (hs : DK.Small 1073741824 m) :
    Calls Try.prog 33 #[.map (some b), .pointer (some ⟨B1, 0, none⟩), .pointer (some ⟨B2, 0, none⟩)] w fun e w' => e = .returned (.tuple #[]) ∧ FilesAt w' b (DK.doS m (.move n dst)) ∧ w.grownBy w' (some b) := by
  have hn1 : n.size ≤ 2199023255552 := hok.1
  have hn2 : dst.size ≤ 2199023255552 := hok.2
  have hlen := hs.1
  have hlook := h.look n (by unfold maxLen; omega)
  have hdo : DK.doS m (.move n dst) = DK.put (DK.without m n) dst (DK.get m n) := rfl
  rw [hdo]
  generalize hwas : DK.get m n = was at *
  clear hwas
  have hx := (Ext.refl w).alloc (.cells #[.string was] 59)
  have c0 := h1.c
  have c1 := (h1.ext hx).c
  obtain ⟨w2, hrun2, hf2, hg2⟩ := (h.ext hx).drop n (by unfold maxLen; omega) 0
  have hwl := DK.without_length m n
  obtain ⟨w3, hrun3, hf3, hg3⟩ := hf2.store dst was (by unfold maxLen; omega) (by unfold maxLen; omega)
  have hb2 := (h2.ext hx)
  have hbb := (h.ext hx).ne_cells hb2.at_
  have c2 : w2.cell? ⟨B2, 0, none⟩ = some (.string dst) := (World.cell?_of_block (hg2.block B2 hb2.lt (by intro e; injection e with e; exact hbb e.symm))).trans hb2.c
  have c3 : w2.cell? ⟨w.heap.size, 0, none⟩ = some (.string was) := (World.cell?_of_block (hg2.block w.heap.size (by rw [World.size_alloc]; omega) (by intro e; injection e with e; have := h.lt; omega))).trans (alloc_cell w _ _ 0)
  have HF := Lib.hid hf3
  have HG := Lib.hid hg3
  have HG2 := Lib.hid hg2
  clear hdo hf2 hf3 hg2 hg3 hb2
  go_enter Try.func33, Try.ntmps33
  go_wp2
  go_end0
  exact ⟨rfl, HF.out, ((World.grownBy_alloc w _ (some b)).trans HG2.out).trans HG.out⟩
set_option maxRecDepth 100000 in
set_option maxHeartbeats 1000000 in
theorem disk_there {w0 w : World} {S : Nat → Prop} {B : Nat} {d : DK.D} (h : DiskAt w0 S B d) (he : Ext w0 w) (p : Option Addr) (n c : Nat) (l : List ByteArray) (hl : l.length = n) (hn : n ≤ 900) (name : ByteArray)
    (hrow : w.ownsRow w0.heap.size 9 1 (.slice p n c) n (l.map Value.string)) (hs : ∀ s ∈ l ++ [name], s.size ≤ 2199023255552) :
    Calls Try.prog 31 #[.pointer (some ⟨B, 0, none⟩), .string name, .slice p n c] w fun e w' => e = .returned (.int .i64 (DK.thereE d (l ++ [name]) name)) ∧ Ext w0 w' := by
  obtain ⟨i0, hi, hz0, hz1, hz2⟩ := info_parts info_str
  have hll : (l ++ [name]).length = n + 1 := by rw [List.length_append, hl]; rfl
  have hmay := fun (W : World) (hW : Ext w0 W) (g cap : Nat) (hr : W.ownsRow w0.heap.size 9 1 (.slice (some ⟨g, 0, none⟩) (n + 1) cap) (n + 1) ((l ++ [name]).map Value.string)) => (by
    obtain ⟨g', e, hst⟩ := row_strs hr hll (by omega)
    injection e with e
    injection e with e
    subst e
    exact disk_may (h.ext hW) g 0 (n + 1) cap (l ++ [name]) hll (by omega) hst hs : Calls Try.prog 24 #[.pointer (some ⟨B, 0, none⟩), .slice (some ⟨g, 0, none⟩) (n + 1) cap] W fun e w' => e = .returned (.int .i64 (DK.mayE d.dead (l ++ [name]))) ∧ W = w')
  have HMAY := Lib.hid hmay
  have hsz := he.size
  have hnm := hs name (by simp)
  have hth : DK.thereE d (l ++ [name]) name = if DK.mayE d.dead (l ++ [name]) = 0 then (if DK.has d.now name = true then 0 else 3) else DK.mayE d.dead (l ++ [name]) := rfl
  rw [hth]
  clear hth hmay hs
  generalize DK.mayE d.dead (l ++ [name]) = e0 at *
  obtain ⟨bs, bn, v, h⟩ := h
  have hc2 := h.cells.c2
  have hlo := fun (W : World) (hW : Ext w0 W) => (h.now.ext hW).look_ok name (by unfold maxLen; omega)
  have HLO := Lib.hid hlo
  have HC := Lib.hid hc2
  have HE := Lib.hid he
  have HROW := Lib.hid (hrow.alloc (.cells #[.string name] 9))
  generalize DK.has d.now name = hb at *
  generalize DK.get d.now name = was at *
  have hb3 : w0.heap.size ≤ (w.alloc (.cells #[.string name] 9)).heap.size := by rw [World.size_alloc]; omega
  have hb1 : n + 1 ≤ maxLen := by unfold maxLen; omega
  have hb2 : (n + 1) * 16 ≤ 140737488355328 := by omega
  have happ : l.map Value.string ++ [.string name] = (l ++ [name]).map Value.string := by rw [List.map_append]; rfl
  have HAPP := Lib.hid happ
  have HLL := Lib.hid hll
  clear h hlo hc2 he hrow happ hll
  go_enter Try.func31, Try.ntmps31
  go_wp2_with (at_builtin; refine wpList_append_lies _ rfl _ _ 27 rfl w0.heap.size 9 i0 (.string ByteArray.empty) 1 16 Try.underlying27 hi hz0 hz1 hz2 rfl (by decide) _ n _ rfl HROW.out ⟨w.heap.size, 0, none⟩ 1 1 [.string name] rfl rfl (cell_one_new _ _ _) (by intro u hu; simp at hu; subst hu; rfl) (by decide) hb1 hb2 hb3 _ rfl ?_; intro g cap w1 hown hgrow hat hgl; rw [HAPP.out] at hown; have HX1 := Lib.hid (ext_grownV (HE.out.alloc (.cells #[.string name] 9)) HROW.out hgrow (Nat.le_refl _)); have HW1 := Lib.hid hown; clear hown hgrow hat hgl)
  refine (HMAY.out _ HX1.out _ _ HW1.out).mono ?_
  rintro e w2 ⟨rfl, rfl⟩
  by_cases h0 : e0 = 0
  · subst h0
    have k2 := HX1.out.cell HC.out
    have hlk := HLO.out _ HX1.out
    cases hb with
    | true =>
      go_wp2
      go_ret
      exact ⟨rfl, HX1.out.alloc _⟩
    | false =>
      go_wp2
      go_ret
      exact ⟨rfl, HX1.out.alloc _⟩
  · have h1 : (e0 != 0) = true := by rw [bne_iff_ne]; exact h0
    go_wp2
    go_ret
    exact ⟨rfl, HX1.out⟩

set_option maxRecDepth 100000 in
theorem there_nil (p : Option Addr) (n c : Nat) (l : List ByteArray) (hl : l.length = n) (hn : n ≤ 900) (name : ByteArray) (w0 w : World) (he : Ext w0 w) (hrow : w.ownsRow w0.heap.size 9 1 (.slice p n c) n (l.map Value.string)) :
    Calls Try.prog 31 #[.pointer none, .string name, .slice p n c] w fun e w' => e = .returned (.int .i64 10) ∧ Ext w0 w' := by
  obtain ⟨i0, hi, hz0, hz1, hz2⟩ := info_parts info_str
  have hsz := he.size
  have HE := Lib.hid he
  have HROW := Lib.hid (hrow.alloc (.cells #[.string name] 9))
  have hb3 : w0.heap.size ≤ (w.alloc (.cells #[.string name] 9)).heap.size := by rw [World.size_alloc]; omega
  have hb1 : n + 1 ≤ maxLen := by unfold maxLen; omega
  have hb2 : (n + 1) * 16 ≤ 140737488355328 := by omega
  clear he hrow
  go_enter Try.func31, Try.ntmps31
  go_wp2_with (at_builtin; refine wpList_append_lies _ rfl _ _ 27 rfl w0.heap.size 9 i0 (.string ByteArray.empty) 1 16 Try.underlying27 hi hz0 hz1 hz2 rfl (by decide) _ n _ rfl HROW.out ⟨w.heap.size, 0, none⟩ 1 1 [.string name] rfl rfl (cell_one_new _ _ _) (by intro u hu; simp at hu; subst hu; rfl) (by decide) hb1 hb2 hb3 _ rfl ?_; intro g cap w1 hown hgrow hat hgl; have HX1 := Lib.hid (ext_grownV (HE.out.alloc (.cells #[.string name] 9)) HROW.out hgrow (Nat.le_refl _)); clear hown hgrow hat hgl)
  refine (may_nil _ _ _ _).mono ?_
  rintro e w2 ⟨rfl, rfl⟩
  go_wp2
  go_ret
  exact ⟨rfl, HX1.out⟩

namespace DK
/-- A step is taken, if nothing speaks against it. -/
noncomputable def did (d : D) (e : Int) (st : Step) : D × Int := if e ≠ 0 then (d, e) else (took d st, if (took d st).dead = true then 10 else 0)
noncomputable def cut (d : D) (name : ByteArray) (n : Int) : D × Int :=
  if thereE d [name] name ≠ 0 then (d, thereE d [name] name) else if n < 0 ∨ ((get d.now name).size : Int) < n then (d, 2) else did d 0 (.cut name n.toNat)
noncomputable def move (d : D) (a b : ByteArray) : D × Int := did d (thereE d [b, a] a) (.move a b)
noncomputable def drop (d : D) (a : ByteArray) : D × Int := did d (thereE d [a] a) (.drop a)
theorem there_live {d : D} {l : List ByteArray} {n : ByteArray} (h : thereE d l n = 0) : d.dead = false := by
  cases hd : d.dead with
  | false => rfl
  | true =>
    unfold thereE mayE at h
    rw [hd] at h
    simp at h
end DK

theorem do_cut {w : World} {S : Nat → Prop} {B1 B2 : Nat} {n : ByteArray} {k : Nat} (h1 : Box w B1 9 (.string n)) (h2 : Box w B2 3 (.int .i64 k)) (n1 : ¬ S B1) (n2 : ¬ S B2) :
    DoV w S (.func (.func 32) #[] #[.pointer (some ⟨B1, 0, none⟩), .pointer (some ⟨B2, 0, none⟩)]) (.cut n k) :=
  ⟨_, _, rfl, enters_of Try.func32 (by kernel_rfl) rfl, fun W hW b m hf hok hs => step_cut B1 B2 b m n k W (hW.box h1 n1) (hW.box h2 n2) hf hok hs⟩
theorem do_move {w : World} {S : Nat → Prop} {B1 B2 : Nat} {n z : ByteArray} (h1 : Box w B1 9 (.string n)) (h2 : Box w B2 9 (.string z)) (n1 : ¬ S B1) (n2 : ¬ S B2) :
    DoV w S (.func (.func 33) #[] #[.pointer (some ⟨B1, 0, none⟩), .pointer (some ⟨B2, 0, none⟩)]) (.move n z) :=
  ⟨_, _, rfl, enters_of Try.func33 (by kernel_rfl) rfl, fun W hW b m hf hok hs => step_move B1 B2 b m n z W (hW.box h1 n1) (hW.box h2 n2) hf hok hs⟩
theorem do_drop {w : World} {S : Nat → Prop} {B1 : Nat} {n : ByteArray} (h1 : Box w B1 9 (.string n)) (n1 : ¬ S B1) :
    DoV w S (.func (.func 34) #[] #[.pointer (some ⟨B1, 0, none⟩)]) (.drop n) :=
  ⟨_, _, rfl, enters_of Try.func34 (by kernel_rfl) rfl, fun W hW b m hf hok _ => step_drop B1 b m n W (hW.box h1 n1) hf hok⟩
theorem torn_none {w : World} {S : Nat → Prop} {st : DK.Step} (h : ∀ t, DK.torn t st = none) : TornV w S .nilFunc st := .inl ⟨h, rfl⟩
theorem row_none (w : World) (base : Nat) : w.ownsRow base 9 1 (.slice none 0 0) 0 (([] : List ByteArray).map Value.string) := World.ownsRow_nil _ _ _ _
theorem row_one (w : World) (s : ByteArray) : (w.alloc (.cells #[.string s] 9)).ownsRow w.heap.size 9 1 (.slice (some ⟨w.heap.size, 0, none⟩) 1 1) 1 ([s].map Value.string) :=
  ⟨rfl, .inr ⟨_, 1, #[.string s], rfl, Nat.le_refl _, heap_alloc_new _ _, Nat.le_refl _, by unfold maxLen; omega, rfl, rfl⟩⟩

set_option maxRecDepth 100000 in
theorem drop_nil (name : ByteArray) (w : World) : Calls Try.prog 13 #[.pointer none, .string name] w fun e w' => e = .returned (.int .i64 10) ∧ Ext w w' := by
  have x1 := (Ext.refl w).alloc (.cells #[.string name] 9)
  have c1 : (w.alloc (.cells #[.string name] 9)).cell? ⟨w.heap.size, 0, none⟩ = some (.string name) := alloc_cell w _ _ 0
  have HT := Lib.hid (there_nil none 0 0 [] rfl (by omega) name _ _ (Ext.refl (w.alloc (.cells #[.string name] 9))) (row_none _ _))
  go_enter Try.func13, Try.ntmps13
  go_wp2_with fail
  refine HT.out.mono ?_
  rintro e w' ⟨rfl, g⟩
  go_wp2
  go_ret
  exact ⟨rfl, x1.trans g⟩
set_option maxRecDepth 100000 in
theorem cut_nil (name : ByteArray) (n : Int) (w : World) : Calls Try.prog 11 #[.pointer none, .string name, .int .i64 n] w fun e w' => e = .returned (.int .i64 10) ∧ Ext w w' := by
  have x1 := ((Ext.refl w).alloc (.cells #[.string name] 9)).alloc (.cells #[.int .i64 n] 3)
  have c1 : ((w.alloc (.cells #[.string name] 9)).alloc (.cells #[.int .i64 n] 3)).cell? ⟨w.heap.size, 0, none⟩ = some (.string name) := ((Ext.refl _).alloc _).cell (alloc_cell w _ _ 0)
  have HT := Lib.hid (there_nil none 0 0 [] rfl (by omega) name _ _ (Ext.refl ((w.alloc (.cells #[.string name] 9)).alloc (.cells #[.int .i64 n] 3))) (row_none _ _))
  go_enter Try.func11, Try.ntmps11
  go_wp2_with fail
  refine HT.out.mono ?_
  rintro e w' ⟨rfl, g⟩
  go_wp2
  go_ret
  exact ⟨rfl, x1.trans g⟩
set_option maxRecDepth 100000 in
theorem move_nil (name z : ByteArray) (w : World) : Calls Try.prog 12 #[.pointer none, .string name, .string z] w fun e w' => e = .returned (.int .i64 10) ∧ Ext w w' := by
  have x1 := ((Ext.refl w).alloc (.cells #[.string name] 9)).alloc (.cells #[.string z] 9)
  have c1 : ((w.alloc (.cells #[.string name] 9)).alloc (.cells #[.string z] 9)).cell? ⟨w.heap.size, 0, none⟩ = some (.string name) := ((Ext.refl _).alloc _).cell (alloc_cell w _ _ 0)
  have hs1 : (w.alloc (.cells #[.string name] 9)).heap.size = w.heap.size + 1 := World.size_alloc _ _
  have c2 : ((w.alloc (.cells #[.string name] 9)).alloc (.cells #[.string z] 9)).cell? ⟨w.heap.size + 1, 0, none⟩ = some (.string z) := by rw [← hs1]; exact alloc_cell _ _ _ 0
  obtain ⟨w2, hw2⟩ : ∃ W, (w.alloc (.cells #[.string name] 9)).alloc (.cells #[.string z] 9) = W := ⟨_, rfl⟩
  rw [hw2] at c1 c2 x1
  have HT := Lib.hid (there_nil _ 1 1 [z] rfl (by omega) name w2 _ ((Ext.refl w2).alloc _) (row_one w2 z))
  clear hs1
  have HX := Lib.hid x1
  clear x1
  go_enter Try.func12, Try.ntmps12
  go_upto_region 1 with fail
  go_wp2_with fail
  refine HT.out.mono ?_
  rintro e w' ⟨rfl, g⟩
  go_wp2
  go_ret
  exact ⟨rfl, HX.out.trans g⟩

set_option maxRecDepth 100000 in
set_option maxHeartbeats 1000000 in
theorem disk_drop {w : World} {S : Nat → Prop} {B : Nat} {d : DK.D} {N : Nat} (h : DiskAt w S B d) (hgd : DK.Good N d) (name : ByteArray) (hN : N + name.size + 2 ≤ 1073741824) :
    Calls Try.prog 13 #[.pointer (some ⟨B, 0, none⟩), .string name] w fun e w' => e = .returned (.int .i64 (DK.drop d name).2) ∧ Left w S B (DK.drop d name).1 w' := by
  have x1 := (Ext.refl w).alloc (.cells #[.string name] 9)
  have c1 : (w.alloc (.cells #[.string name] 9)).cell? ⟨w.heap.size, 0, none⟩ = some (.string name) := alloc_cell w _ _ 0
  have hth := disk_there (h.ext x1) (Ext.refl _) none 0 0 [] rfl (by omega) name (row_none _ _) (fun s hs => by simp at hs; subst hs; omega)
  have hdr : DK.drop d name = DK.did d (DK.thereE d [name] name) (.drop name) := rfl
  rw [List.nil_append] at hth
  have hlv := DK.there_live (d := d) (l := [name]) (n := name)
  generalize DK.thereE d [name] name = e0 at *
  have hdid : DK.did d e0 (.drop name) = if e0 ≠ 0 then (d, e0) else (DK.took d (.drop name), if (DK.took d (.drop name)).dead = true then 10 else 0) := rfl
  rw [hdid] at hdr
  obtain ⟨r, hr⟩ : ∃ r, DK.drop d name = r := ⟨_, rfl⟩
  rw [hr] at hdr ⊢
  have HR := Lib.hid hdr
  have HT := Lib.hid hth
  have HLV := Lib.hid hlv
  have HH := Lib.hid h
  have HG := Lib.hid hgd
  have HX := Lib.hid x1
  have HB := Lib.hid (Box.new w 9 (.string name))
  clear hr hdr hdid hth hlv h hgd x1
  go_enter Try.func13, Try.ntmps13
  go_wp2_with fail
  refine HT.out.mono ?_
  rintro e w2 ⟨rfl, g2⟩
  have HX2 := Lib.hid (HX.out.trans g2)
  have HB2 := Lib.hid (HB.out.ext g2)
  clear g2
  by_cases h0 : e0 = 0
  · subst h0
    have hl := HLV.out rfl
    obtain ⟨bs, bn, v, hi⟩ := HH.out
    have htk := disk_took (HH.out.ext HX2.out) _ _ (.drop name) (do_drop HB2.out (fun hs => by have := hi.lt _ hs; omega)) (torn_none fun _ => rfl) (show name.size ≤ 2199023255552 by omega) (HG.out.nowS.mono (by omega)) (by have := HG.out.len; omega) hl (fun e => HG.out.fuse e hl)
    obtain ⟨q, hq⟩ : ∃ q : Int, (if (DK.took d (.drop name)).dead = true then 10 else 0) = q := ⟨_, rfl⟩
    rw [hq] at htk
    have HQ := Lib.hid hq
    have HTK := Lib.hid htk
    clear htk hq hi
    go_wp2_with fail
    refine HTK.out.mono ?_
    rintro e w3 ⟨rfl, hleft⟩
    have HLF := Lib.hid hleft
    clear hleft
    go_wp2
    go_ret
    have hf := HR.out
    rw [if_neg (by simp), HQ.out] at hf
    rw [hf]
    exact ⟨rfl, Left.from_ HX2.out HLF.out⟩
  · have h1 : (e0 != 0) = true := by rw [bne_iff_ne]; exact h0
    go_wp2
    go_ret
    have hf := HR.out
    rw [if_pos h0] at hf
    rw [hf]
    exact ⟨rfl, Left.same HH.out HX2.out⟩

set_option maxRecDepth 100000 in
set_option maxHeartbeats 1000000 in
theorem disk_move {w : World} {S : Nat → Prop} {B : Nat} {d : DK.D} {N : Nat} (h : DiskAt w S B d) (hgd : DK.Good N d) (name z : ByteArray) (hN : N + name.size + z.size + 2 ≤ 1073741824) :
    Calls Try.prog 12 #[.pointer (some ⟨B, 0, none⟩), .string name, .string z] w fun e w' => e = .returned (.int .i64 (DK.move d name z).2) ∧ Left w S B (DK.move d name z).1 w' := by
  have x1 := ((Ext.refl w).alloc (.cells #[.string name] 9)).alloc (.cells #[.string z] 9)
  have b1 := (Box.new w 9 (.string name)).ext ((Ext.refl _).alloc (.cells #[.string z] 9))
  have hs1 : (w.alloc (.cells #[.string name] 9)).heap.size = w.heap.size + 1 := World.size_alloc _ _
  have b2 := Box.new (w.alloc (.cells #[.string name] 9)) 9 (.string z)
  rw [hs1] at b2
  obtain ⟨w2, hw2⟩ : ∃ W, (w.alloc (.cells #[.string name] 9)).alloc (.cells #[.string z] 9) = W := ⟨_, rfl⟩
  rw [hw2] at b1 b2 x1
  have c1 := b1.c
  have c2 := b2.c
  have hth := disk_there (h.ext x1) ((Ext.refl w2).alloc _) _ 1 1 [z] rfl (by omega) name (row_one w2 z) (fun s hs => by simp at hs; rcases hs with rfl | rfl <;> omega)
  have hdr : DK.move d name z = DK.did d (DK.thereE d [z, name] name) (.move name z) := rfl
  rw [show [z] ++ [name] = [z, name] from rfl] at hth
  have hlv := DK.there_live (d := d) (l := [z, name]) (n := name)
  generalize DK.thereE d [z, name] name = e0 at *
  have hdid : DK.did d e0 (.move name z) = if e0 ≠ 0 then (d, e0) else (DK.took d (.move name z), if (DK.took d (.move name z)).dead = true then 10 else 0) := rfl
  rw [hdid] at hdr
  obtain ⟨r, hr⟩ : ∃ r, DK.move d name z = r := ⟨_, rfl⟩
  rw [hr] at hdr ⊢
  have HR := Lib.hid hdr
  have HT := Lib.hid hth
  have HLV := Lib.hid hlv
  have HH := Lib.hid h
  have HG := Lib.hid hgd
  have HX := Lib.hid x1
  have HB1 := Lib.hid b1
  have HB2 := Lib.hid b2
  clear hr hdr hdid hth hlv h hgd x1 hs1 b1 b2
  go_enter Try.func12, Try.ntmps12
  go_upto_region 1 with fail
  go_wp2_with fail
  refine HT.out.mono ?_
  rintro e w3 ⟨rfl, g2⟩
  have HX2 := Lib.hid (HX.out.trans g2)
  have D1 := Lib.hid (HB1.out.ext g2)
  have D2 := Lib.hid (HB2.out.ext g2)
  clear g2
  by_cases h0 : e0 = 0
  case neg =>
    have h1 : (e0 != 0) = true := by rw [bne_iff_ne]; exact h0
    go_wp2
    go_ret
    have hf := HR.out
    rw [if_pos h0] at hf
    rw [hf]
    exact ⟨rfl, Left.same HH.out HX2.out⟩
  case pos =>
  subst h0
  have hl := HLV.out rfl
  obtain ⟨bs, bn, v, hi⟩ := HH.out
  have htk := disk_took (HH.out.ext HX2.out) _ _ (.move name z) (do_move D1.out D2.out (fun hs => by have := hi.lt _ hs; omega) (fun hs => by have := hi.lt _ hs; omega)) (torn_none fun _ => rfl) ⟨show name.size ≤ 2199023255552 by omega, show z.size ≤ 2199023255552 by omega⟩ (HG.out.nowS.mono (by omega)) (by have := HG.out.len; omega) hl (fun e => HG.out.fuse e hl)
  obtain ⟨q, hq⟩ : ∃ q : Int, (if (DK.took d (.move name z)).dead = true then 10 else 0) = q := ⟨_, rfl⟩
  rw [hq] at htk
  have HQ := Lib.hid hq
  have HTK := Lib.hid htk
  clear htk hq hi
  go_wp2_with fail
  refine HTK.out.mono ?_
  rintro e w4 ⟨rfl, hleft⟩
  have HLF := Lib.hid hleft
  clear hleft
  go_wp2
  go_ret
  have hf := HR.out
  rw [if_neg (by simp), HQ.out] at hf
  rw [hf]
  exact ⟨rfl, Left.from_ HX2.out HLF.out⟩

set_option maxRecDepth 100000 in
set_option maxHeartbeats 1000000 in
theorem disk_cut {w : World} {S : Nat → Prop} {B : Nat} {d : DK.D} {N : Nat} (h : DiskAt w S B d) (hgd : DK.Good N d) (name : ByteArray) (n : Int) (hN : N + name.size + 2 ≤ 1073741824) :
    Calls Try.prog 11 #[.pointer (some ⟨B, 0, none⟩), .string name, .int .i64 n] w fun e w' => e = .returned (.int .i64 (DK.cut d name n).2) ∧ Left w S B (DK.cut d name n).1 w' := by
  have x1 := ((Ext.refl w).alloc (.cells #[.string name] 9)).alloc (.cells #[.int .i64 n] 3)
  have b1 := (Box.new w 9 (.string name)).ext ((Ext.refl _).alloc (.cells #[.int .i64 n] 3))
  have hs1 : (w.alloc (.cells #[.string name] 9)).heap.size = w.heap.size + 1 := World.size_alloc _ _
  have b2 := Box.new (w.alloc (.cells #[.string name] 9)) 3 (.int .i64 n)
  rw [hs1] at b2
  obtain ⟨w2, hw2⟩ : ∃ W, (w.alloc (.cells #[.string name] 9)).alloc (.cells #[.int .i64 n] 3) = W := ⟨_, rfl⟩
  rw [hw2] at b1 b2 x1
  have c1 := b1.c
  have c2 := b2.c
  have hth := disk_there (h.ext x1) (Ext.refl w2) none 0 0 [] rfl (by omega) name (row_none _ _) (fun s hs => by simp at hs; subst hs; omega)
  rw [List.nil_append] at hth
  have hdr : DK.cut d name n = if DK.thereE d [name] name ≠ 0 then (d, DK.thereE d [name] name) else if n < 0 ∨ ((DK.get d.now name).size : Int) < n then (d, 2) else DK.did d 0 (.cut name n.toNat) := rfl
  have hlv := DK.there_live (d := d) (l := [name]) (n := name)
  generalize DK.thereE d [name] name = e0 at *
  obtain ⟨r, hr⟩ : ∃ r, DK.cut d name n = r := ⟨_, rfl⟩
  rw [hr] at hdr ⊢
  have HR := Lib.hid hdr
  have HT := Lib.hid hth
  have HLV := Lib.hid hlv
  have HH := Lib.hid h
  have HG := Lib.hid hgd
  have HX := Lib.hid x1
  have HB1 := Lib.hid b1
  have HB2 := Lib.hid b2
  clear hr hdr hth hlv h hgd x1 hs1 b1 b2
  go_enter Try.func11, Try.ntmps11
  go_upto_region 1 with fail
  go_wp2_with fail
  refine HT.out.mono ?_
  rintro e w3 ⟨rfl, g2⟩
  have HX2 := Lib.hid (HX.out.trans g2)
  have D1 := Lib.hid (HB1.out.ext g2)
  have D2 := Lib.hid (HB2.out.ext g2)
  clear g2
  by_cases h0 : e0 = 0
  case neg =>
    have h1 : (e0 != 0) = true := by rw [bne_iff_ne]; exact h0
    go_wp2
    go_ret
    have hf := HR.out
    rw [if_pos h0] at hf
    rw [hf]
    exact ⟨rfl, Left.same HH.out HX2.out⟩
  case pos =>
  subst h0
  have hl := HLV.out rfl
  obtain ⟨bs, bn, v, hi⟩ := HH.out
  have q0 := cell_ext D1.out.c
  have q1 := cell_ext D2.out.c
  have q2 := cell_ext (HX2.out.cell hi.cells.c2)
  have hlook := fun (p : ExtOf w3) => (hi.now.ext (HX2.out.trans p.ext)).look name (by unfold maxLen; omega)
  have hfd := field_file
  obtain ⟨was, hwas⟩ : ∃ x, DK.get d.now name = x := ⟨_, rfl⟩
  rw [hwas] at hlook
  have HWAS := Lib.hid hwas
  have HI := Lib.hid hi
  have HL := Lib.hid hl
  clear hwas hi hl
  by_cases hat : n < 0 ∨ (was.size : Int) < n
  · by_cases hneg : n < 0
    · have k1 : decide (n < 0) = true := decide_eq_true hneg
      go_wp2
      refine wp_region_quiet_ext (by kernel_rfl) (by kernel_rfl) ?_
      repeat (go_big_quiet_step ((first | fail)))
      refine wpQuiet_nil ?_
      intro w6 g6
      go_wp2
      go_ret
      have hf := HR.out
      rw [if_neg (by simp), HWAS.out, if_pos hat] at hf
      rw [hf]
      exact ⟨rfl, Left.same HH.out (HX2.out.trans g6)⟩
    · have k1 : decide (n < 0) = false := decide_eq_false hneg
      have k2 : decide ((was.size : Int) < n) = true := decide_eq_true (by omega)
      go_wp2
      refine wp_region_quiet_ext (by kernel_rfl) (by kernel_rfl) ?_
      repeat (go_big_quiet_step ((first | fail)))
      refine wpQuiet_nil ?_
      intro w6 g6
      go_wp2
      go_ret
      have hf := HR.out
      rw [if_neg (by simp), HWAS.out, if_pos hat] at hf
      rw [hf]
      exact ⟨rfl, Left.same HH.out (HX2.out.trans g6)⟩
  · obtain ⟨k, hk⟩ : ∃ k : Nat, n = (k : Int) := ⟨n.toNat, by omega⟩
    subst hk
    have k1 : decide ((k : Int) < 0) = false := decide_eq_false (by omega)
    have k2 : decide ((was.size : Int) < k) = false := decide_eq_false (by omega)
    have hkw : k ≤ was.size := by omega
    have HAT := Lib.hid hat
    clear hat
    go_wp2
    refine wp_region_quiet_ext (by kernel_rfl) (by kernel_rfl) ?_
    repeat (go_big_quiet_step ((first | fail)))
    refine wpQuiet_nil ?_
    intro w6 g6
    have X6 := Lib.hid (HX2.out.trans g6)
    have E1 := Lib.hid (D1.out.ext g6)
    have E2 := Lib.hid (D2.out.ext g6)
    clear g6 q0 q1 q2 hlook k1 k2
    have htk := disk_took (HH.out.ext X6.out) _ _ (.cut name k) (do_cut E1.out E2.out (fun hs => by have := HI.out.lt _ hs; omega) (fun hs => by have := HI.out.lt _ hs; omega)) (torn_none fun _ => rfl) ⟨by rw [HWAS.out]; exact hkw, show name.size ≤ 2199023255552 by omega⟩ (HG.out.nowS.mono (by omega)) (by have := HG.out.len; omega) HL.out (fun e => HG.out.fuse e HL.out)
    obtain ⟨q, hq⟩ : ∃ q : Int, (if (DK.took d (.cut name k)).dead = true then 10 else 0) = q := ⟨_, rfl⟩
    rw [hq] at htk
    have HQ := Lib.hid hq
    have HTK := Lib.hid htk
    clear htk hq
    go_wp2_with fail
    refine HTK.out.mono ?_
    rintro e w4 ⟨rfl, hleft⟩
    have HLF := Lib.hid hleft
    clear hleft
    go_wp2
    go_ret
    have hf := HR.out
    rw [if_neg (by simp), HWAS.out, if_neg HAT.out] at hf
    have hd : DK.did d 0 (.cut name ((k : Int)).toNat) = (DK.took d (.cut name k), if (DK.took d (.cut name k)).dead = true then 10 else 0) := rfl
    rw [hd, HQ.out] at hf
    rw [hf]
    exact ⟨rfl, Left.from_ X6.out HLF.out⟩
end Go.Proofs.Ytfegfbhchdfibaa
