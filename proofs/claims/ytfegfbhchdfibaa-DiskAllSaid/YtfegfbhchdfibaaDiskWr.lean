/- What the disk's Write answers, and what it leaves. -/
import Derived.Test.YtfegfbhchdfibaaDiskTook
namespace Go.Proofs.Ytfegfbhchdfibaa
open Go.RowKit

theorem Grew.from_ {w w' : World} {S S' : Nat → Prop} (hs : w.heap.size ≤ w'.heap.size) (h : Grew w' S S') : Grew w S S' := fun k hk => (h k hk).imp id (fun h => by omega)
theorem Kept.box {w W : World} {S : Nat → Prop} {k : Nat} {t : TypeId} {v : Value} (h : Kept S w W) (hb : Box w k t v) (hn : ¬ S k) : Box W k t v := ⟨(h k hb.lt hn (by
  rintro ⟨cs, u, f, e, h6⟩
  rw [hb.at_] at e
  injection e with e
  injection e with e1 e2
  rw [← e1] at h6
  simp at h6)).trans hb.at_⟩

/-- What a method leaves: the disk, its blocks, and nothing else turned. -/
def Left (w : World) (S : Nat → Prop) (B : Nat) (d : DK.D) (w' : World) : Prop := ∃ S', DiskAt w' S' B d ∧ Turn S w w' ∧ Grew w S S'
theorem Left.same {w w' : World} {S : Nat → Prop} {B : Nat} {d : DK.D} (h : DiskAt w S B d) (he : Ext w w') : Left w S B d w' := ⟨S, h.ext he, Turn.of_ext he, Grew.refl _ _⟩
theorem Left.from_ {w w1 w' : World} {S : Nat → Prop} {B : Nat} {d : DK.D} (he : Ext w w1) (h : Left w1 S B d w') : Left w S B d w' := by
  obtain ⟨S', h1, h2, h3⟩ := h
  exact ⟨S', h1, (Turn.of_ext he).trans' h2, h3.from_ he.size⟩

namespace DK
open Classical in
noncomputable def takes (d : D) (st : Step) : D × Int := (took d st, if (took d st).dead = true then 10 else 0)
/-- Write, as the disk answers it. -/
noncomputable def write (d : D) (name : ByteArray) (at_ : Int) (s : ByteArray) : D × Int :=
  if mayE d.dead [name] ≠ 0 then (d, mayE d.dead [name])
  else if at_ < 0 ∨ ((get d.now name).size : Int) < at_ then (d, 2)
  else if fitsB d (doS d.now (.write name at_.toNat s)) = false then (d, 4)
  else (took d (.write name at_.toNat s), if (took d (.write name at_.toNat s)).dead = true then 10 else 0)
end DK

theorem do_write {w : World} {S : Nat → Prop} {B1 B2 B3 : Nat} {n s : ByteArray} {k : Nat} (h1 : Box w B1 9 (.string n)) (h2 : Box w B2 3 (.int .i64 k)) (h3 : Box w B3 9 (.string s)) (n1 : ¬ S B1) (n2 : ¬ S B2) (n3 : ¬ S B3) :
    DoV w S (.func (.func 25) #[] #[.pointer (some ⟨B1, 0, none⟩), .pointer (some ⟨B2, 0, none⟩), .pointer (some ⟨B3, 0, none⟩)]) (.write n k s) :=
  ⟨_, _, rfl, enters_of Try.func25 (by kernel_rfl) rfl, fun W hW b m hf hok hs => step_write B1 B2 B3 b m n s k W (hW.box h1 n1) (hW.box h2 n2) (hW.box h3 n3) hf hok hs⟩
theorem torn_write {w : World} {S : Nat → Prop} {B1 B2 B3 : Nat} {n s : ByteArray} {k : Nat} (h1 : Box w B1 9 (.string n)) (h2 : Box w B2 3 (.int .i64 k)) (h3 : Box w B3 9 (.string s)) (n1 : ¬ S B1) (n2 : ¬ S B2) (n3 : ¬ S B3) :
    TornV w S (.func (.func 30) #[] #[.pointer (some ⟨B1, 0, none⟩), .pointer (some ⟨B2, 0, none⟩), .pointer (some ⟨B3, 0, none⟩)]) (.write n k s) :=
  .inr ⟨⟨n, k, s, rfl⟩, _, _, rfl, enters_of Try.func30 (by kernel_rfl) rfl, fun W hW b m t hf hok hs => (step_torn B1 B2 B3 b m n s k t W (hW.box h1 n1) (hW.box h2 n2) (hW.box h3 n3) hf hok hs).mono fun e W' ⟨h1, h2, h3⟩ => ⟨h1, ⟨_, rfl, h2⟩, h3⟩⟩

set_option maxRecDepth 100000 in
theorem write_nil (name s : ByteArray) (at_ : Int) (w : World) : Calls Try.prog 10 #[.pointer none, .string name, .int .i64 at_, .string s] w fun e w' => e = .returned (.int .i64 10) ∧ Ext w w' := by
  have hE := (((((Ext.refl w).alloc (.cells #[.string name] 9)).alloc (.cells #[.int .i64 at_] 3)).alloc (.cells #[.string s] 9)).alloc (.cells #[.string name] 9))
  have c1 : ((((w.alloc (.cells #[.string name] 9)).alloc (.cells #[.int .i64 at_] 3)).alloc (.cells #[.string s] 9))).cell? ⟨w.heap.size, 0, none⟩ = some (.string name) := (((Ext.refl _).alloc _).alloc _).cell (alloc_cell w _ _ 0)
  go_enter Try.func10, Try.ntmps10
  go_wp2_with fail
  refine (may_nil _ _ _ _).mono ?_
  rintro e w' ⟨rfl, rfl⟩
  go_wp2
  go_ret
  exact ⟨rfl, hE⟩

set_option maxRecDepth 100000 in
set_option maxHeartbeats 2000000 in
theorem disk_write {w : World} {S : Nat → Prop} {B : Nat} {d : DK.D} {N : Nat} (h : DiskAt w S B d) (hgd : DK.Good N d) (name s : ByteArray) (at_ : Int) (hN : N + name.size + s.size + 2 ≤ 1073741824) :
    Calls Try.prog 10 #[.pointer (some ⟨B, 0, none⟩), .string name, .int .i64 at_, .string s] w fun e w' => e = .returned (.int .i64 (DK.write d name at_ s).2) ∧ Left w S B (DK.write d name at_ s).1 w' := by
  obtain ⟨w3, hw3⟩ : ∃ W, (((w.alloc (.cells #[.string name] 9)).alloc (.cells #[.int .i64 at_] 3)).alloc (.cells #[.string s] 9)) = W := ⟨_, rfl⟩
  have hs1 : (w.alloc (.cells #[.string name] 9)).heap.size = w.heap.size + 1 := World.size_alloc _ _
  have hs2 : ((w.alloc (.cells #[.string name] 9)).alloc (.cells #[.int .i64 at_] 3)).heap.size = w.heap.size + 1 + 1 := by rw [World.size_alloc, hs1]
  have x3 : Ext w w3 := by rw [← hw3]; exact (((Ext.refl w).alloc _).alloc _).alloc _
  have b1 : Box w3 w.heap.size 9 (.string name) := by rw [← hw3]; exact (Box.new w _ _).ext (((Ext.refl _).alloc _).alloc _)
  have b2 : Box w3 (w.heap.size + 1) 3 (.int .i64 at_) := by
    rw [← hw3]
    have := (Box.new (w.alloc (.cells #[.string name] 9)) 3 (.int .i64 at_)).ext ((Ext.refl _).alloc (.cells #[.string s] 9))
    rw [hs1] at this
    exact this
  have b3 : Box w3 (w.heap.size + 1 + 1) 9 (.string s) := by
    rw [← hw3]
    have := Box.new ((w.alloc (.cells #[.string name] 9)).alloc (.cells #[.int .i64 at_] 3)) 9 (.string s)
    rw [hs2] at this
    exact this
  have c1 := b1.c
  have hbt : StrsAt (w3.alloc (.cells #[.string name] 9)) w3.heap.size 0 [name] := fun i hi => by
    obtain rfl : i = 0 := by simpa using hi
    exact alloc_cell w3 _ _ 0
  have x4 := x3.alloc (.cells #[.string name] 9)
  have hmay := disk_may (h.ext x4) w3.heap.size 0 1 1 [name] rfl (by omega) hbt (fun s hs => by simp at hs; subst hs; omega)
  have hnow := hgd.nowS
  have hws := hnow.get name
  have hwr : DK.write d name at_ s = if DK.mayE d.dead [name] ≠ 0 then (d, DK.mayE d.dead [name])
    else if at_ < 0 ∨ ((DK.get d.now name).size : Int) < at_ then (d, 2)
    else if DK.fitsB d (DK.doS d.now (.write name at_.toNat s)) = false then (d, 4)
    else (DK.took d (.write name at_.toNat s), if (DK.took d (.write name at_.toNat s)).dead = true then 10 else 0) := rfl
  have HWR := Lib.hid hwr
  have HGD := Lib.hid hgd
  have HH := Lib.hid h
  have hlive : DK.mayE d.dead [name] = 0 → d.dead = false := fun e => by
    cases hd : d.dead with
    | false => rfl
    | true => rw [hd] at e; exact absurd e (by unfold DK.mayE; simp)
  obtain ⟨e0, he0⟩ : ∃ e0, DK.mayE d.dead [name] = e0 := ⟨_, rfl⟩
  rw [he0] at hmay hlive hwr
  have HE0 := Lib.hid he0
  have HM := Lib.hid hmay
  have HLV := Lib.hid hlive
  have HX4 := Lib.hid x4
  have HB1 := Lib.hid b1
  have HB2 := Lib.hid b2
  have HB3 := Lib.hid b3
  have HNOW := Lib.hid hnow
  clear hmay hwr hgd h hlive he0 x4 b1 b2 b3 hbt hnow hs1 hs2
  by_cases h0 : e0 = 0
  case neg =>
    have hres : DK.write d name at_ s = (d, e0) := by rw [HWR.out, HE0.out, if_pos h0]
    rw [hres]
    have h1 : (e0 != 0) = true := by rw [bne_iff_ne]; exact h0
    clear hres x3
    go_enter Try.func10, Try.ntmps10
    go_upto_region 1 with fail
    go_wp2_with fail
    refine HM.out.mono ?_
    rintro e w5 ⟨rfl, rfl⟩
    go_wp2
    go_ret
    exact ⟨rfl, Left.same HH.out HX4.out⟩
  case pos =>
  subst h0
  have hl := HLV.out rfl
  have HL := Lib.hid hl
  clear HLV hl
  obtain ⟨bs, bn, v, hi⟩ := HH.out
  have x4 := HX4.out
  have c2 := x4.cell hi.cells.c2
  have d1 := (HB1.out.ext ((Ext.refl w3).alloc (.cells #[.string name] 9))).c
  have d2 := (HB2.out.ext ((Ext.refl w3).alloc (.cells #[.string name] 9))).c
  have hlook := fun (p : ExtOf (w3.alloc (.cells #[.string name] 9))) => (hi.now.ext (x4.trans p.ext)).look name (by unfold maxLen; omega)
  have q1 := cell_ext d1
  have q2 := cell_ext d2
  have q3 := cell_ext c2
  have hfd := field_file
  by_cases hat : at_ < 0 ∨ ((DK.get d.now name).size : Int) < at_
  · have hres : DK.write d name at_ s = (d, 2) := by rw [HWR.out, HE0.out, if_neg (by simp), if_pos hat]
    rw [hres]
    generalize DK.get d.now name = was at *
    clear hres x3 c2 d1 d2 x4
    by_cases hneg : at_ < 0
    · have k1 : decide (at_ < 0) = true := decide_eq_true hneg
      go_enter Try.func10, Try.ntmps10
      go_upto_region 1 with fail
      go_wp2_with fail
      refine HM.out.mono ?_
      rintro e w5 ⟨rfl, rfl⟩
      go_wp2
      refine wp_region_quiet_ext (by kernel_rfl) (by kernel_rfl) ?_
      repeat (go_big_quiet_step ((first | fail)))
      refine wpQuiet_nil ?_
      intro w6 g6
      go_wp2
      go_ret
      exact ⟨rfl, Left.same HH.out (HX4.out.trans g6)⟩
    · have k1 : decide (at_ < 0) = false := decide_eq_false hneg
      have k2 : decide ((was.size : Int) < at_) = true := decide_eq_true (by omega)
      go_enter Try.func10, Try.ntmps10
      go_upto_region 1 with fail
      go_wp2_with fail
      refine HM.out.mono ?_
      rintro e w5 ⟨rfl, rfl⟩
      go_wp2
      refine wp_region_quiet_ext (by kernel_rfl) (by kernel_rfl) ?_
      repeat (go_big_quiet_step ((first | fail)))
      refine wpQuiet_nil ?_
      intro w6 g6
      go_wp2
      go_ret
      exact ⟨rfl, Left.same HH.out (HX4.out.trans g6)⟩
  · obtain ⟨k, hk⟩ : ∃ k : Nat, at_ = (k : Int) := ⟨at_.toNat, by omega⟩
    subst hk
    have hkw : k ≤ (DK.get d.now name).size := by omega
    have htn : ((k : Int)).toNat = k := rfl
    have hok : DK.okS d.now (.write name k s) := ⟨hkw, by omega, by omega⟩
    have hsm2 := HNOW.out.step (.write name k s) hok
    have hbr : DK.brings (.write name k s) = name.size + s.size + 1 := rfl
    rw [hbr] at hsm2
    have hsm3 := hsm2.mono (show N + (name.size + s.size + 1) ≤ 1073741824 by omega)
    have hsm0 := HNOW.out.mono (show N ≤ 1073741824 by omega)
    have HOK := Lib.hid hok
    have HS3 := Lib.hid hsm3
    have HS0 := Lib.hid hsm0
    have htl := HGD.out.len
    have hfu := fun (e : d.fused = true) => HGD.out.fuse e HL.out
    have HFU := Lib.hid hfu
    have HTL := Lib.hid (show d.todo.length ≤ 1073741824 by omega)
    have hres : DK.write d name k s = if DK.fitsB d (DK.doS d.now (.write name k s)) = false then (d, 4) else (DK.took d (.write name k s), if (DK.took d (.write name k s)).dead = true then 10 else 0) := by
      rw [HWR.out, HE0.out, if_neg (by simp), if_neg hat, htn]
    have HRES := Lib.hid hres
    have k1 : decide ((k : Int) < 0) = false := decide_eq_false (by omega)
    have k2 : decide (((DK.get d.now name).size : Int) < k) = false := decide_eq_false (by omega)
    have HI := Lib.hid hi
    have HC2 := Lib.hid c2
    clear hok hsm2 hbr hsm3 hsm0 hres hfu htl htn hat hi
    generalize DK.get d.now name = was at *
    obtain ⟨nx, hnx⟩ : ∃ nx, DK.doS d.now (.write name k s) = nx := ⟨_, rfl⟩
    have HNX := Lib.hid hnx
    rw [hnx] at HS3
    clear hnx
    obtain ⟨fb, hfb⟩ : ∃ fb, DK.fitsB d nx = fb := ⟨_, rfl⟩
    have HFB := Lib.hid hfb
    have hcs : DK.write d name k s = if fb = false then (d, 4) else (DK.took d (.write name k s), if (DK.took d (.write name k s)).dead = true then 10 else 0) := by rw [HRES.out, HNX.out, HFB.out]
    have HCS := Lib.hid hcs
    clear hfb hcs HRES HWR x3 c2 d1 d2 x4
    obtain ⟨r, hr⟩ : ∃ r, DK.write d name k s = r := ⟨_, rfl⟩
    rw [hr] at HCS ⊢
    clear hr
    go_enter Try.func10, Try.ntmps10
    go_upto_region 1 with fail
    go_wp2_with fail
    refine HM.out.mono ?_
    rintro e w5 ⟨rfl, rfl⟩
    go_wp2
    refine wp_region_quiet_ext (by kernel_rfl) (by kernel_rfl) ?_
    repeat (go_big_quiet_step ((first | fail)))
    refine wpQuiet_nil ?_
    intro w6 g6
    have a6 := ((Ext.refl w3).alloc (.cells #[.string name] 9)).trans g6
    have X6 := Lib.hid (HX4.out.trans g6)
    have D1 := Lib.hid (HB1.out.ext a6)
    have D2 := Lib.hid (HB2.out.ext a6)
    have D3 := Lib.hid (HB3.out.ext a6)
    have c2 := g6.cell HC2.out
    have hcl := files_clone bn d.now w6 (HI.out.now.ext X6.out)
    have HCL := Lib.hid hcl
    clear hcl a6 g6 hlook q1 q2 q3 k1 k2 c1
    go_wp2_with fail
    refine HCL.out.mono ?_
    rintro e w7 ⟨rfl, hf7, hlt7, g7⟩
    have HF7 := Lib.hid hf7
    have HG7 := Lib.hid g7
    have hst := step_write w.heap.size (w.heap.size + 1) (w.heap.size + 1 + 1) w6.heap.size d.now name s k w7 (D1.out.ext g7) (D2.out.ext g7) (D3.out.ext g7) hf7 HOK.out HS0.out
    rw [HNX.out] at hst
    have HST := Lib.hid hst
    clear hf7 hlt7 g7 hst c2
    go_wp2_with fail
    refine HST.out.mono ?_
    rintro e w8 ⟨rfl, hf8, g8⟩
    have HF8 := Lib.hid hf8
    have hx8 : Ext w6 w8 := ext_grownBy HG7.out g8 (Nat.le_refl _)
    have HX8 := Lib.hid hx8
    have hfi := disk_fits (HH.out.ext (X6.out.trans hx8)) w6.heap.size nx hf8 HS3.out
    rw [HFB.out] at hfi
    have HFI := Lib.hid hfi
    clear hf8 g8 hx8 hfi
    go_wp2_with fail
    refine HFI.out.mono ?_
    rintro e w9 ⟨rfl, g9⟩
    have X9 := Lib.hid ((X6.out.trans HX8.out).trans g9)
    have E1 := Lib.hid (D1.out.ext (HX8.out.trans g9))
    have E2 := Lib.hid (D2.out.ext (HX8.out.trans g9))
    have E3 := Lib.hid (D3.out.ext (HX8.out.trans g9))
    clear g9
    cases fb with
    | false =>
      go_wp2
      go_ret
      refine ⟨by rw [HCS.out]; rfl, ?_⟩
      rw [HCS.out]
      exact Left.same HH.out X9.out
    | true =>
      have hnS : ∀ k, w.heap.size ≤ k → ¬ S k := fun k hk hs => by have := HI.out.lt k hs; omega
      have htk := disk_took (HH.out.ext X9.out) _ _ (.write name k s) (do_write E1.out E2.out E3.out (hnS _ (by omega)) (hnS _ (by omega)) (hnS _ (by omega))) (torn_write E1.out E2.out E3.out (hnS _ (by omega)) (hnS _ (by omega)) (hnS _ (by omega))) HOK.out HS0.out HTL.out HL.out HFU.out
      obtain ⟨q, hq⟩ : ∃ q : Int, (if (DK.took d (.write name k s)).dead = true then 10 else 0) = q := ⟨_, rfl⟩
      rw [hq] at htk
      have HQ := Lib.hid hq
      have HTK := Lib.hid htk
      clear hnS htk hq
      go_wp2_with fail
      refine HTK.out.mono ?_
      rintro e w10 ⟨rfl, hleft⟩
      have HLF := Lib.hid hleft
      clear hleft
      go_wp2
      go_ret
      refine ⟨by rw [HCS.out, if_neg (by simp)]; show _ = Ending.returned (.int .i64 (if (DK.took d (.write name k s)).dead = true then 10 else 0)); rw [HQ.out]; rfl, ?_⟩
      rw [HCS.out, if_neg (by simp)]
      exact Left.from_ X9.out HLF.out
end Go.Proofs.Ytfegfbhchdfibaa
