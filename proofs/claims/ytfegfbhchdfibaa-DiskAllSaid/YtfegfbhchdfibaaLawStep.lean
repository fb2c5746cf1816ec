/- An act, upon a disk and upon the document's disk. PRINTED BY mk_lawstep.py. -/
import Derived.Test.YtfegfbhchdfibaaDocCrash
import Derived.Test.YtfegfbhchdfibaaDiskGoodOps
import Derived.Test.YtfegfbhchdfibaaDiskUse
import Derived.Test.YtfegfbhchdfibaaDiskCrash
import Derived.Test.YtfegfbhchdfibaaActsGreat
namespace Go.Proofs.Ytfegfbhchdfibaa
open Go.RowKit

def ActV.rs (y : ActV) : RStep := ⟨y.kind, y.name, y.to_, y.at_, y.s⟩
namespace DK
/-- What an act makes of a disk. -/
noncomputable def lstep (d : D) (y : ActV) : D := if 0 ≤ y.kind ∧ y.kind ≤ 3 then (act d y.rs).1 else if y.kind = 4 then (syncD d).1 else if y.kind = 5 then setFuse d y.at_ else crash d y.at_ y.n
theorem did_room (d : D) (e : Int) (st : Step) : (did d e st).1.room = d.room ∧ (did d e st).1.safe = d.safe := by
  unfold did
  split
  · exact ⟨rfl, rfl⟩
  · exact ⟨burn_room _, burn_safe _⟩
theorem sync_room (d : D) : (syncD d).1.room = d.room ∧ (syncD d).1.now = d.now := by
  unfold syncD
  split
  · exact ⟨rfl, rfl⟩
  · split
    · exact ⟨burn_room _, burn_now _⟩
    · exact ⟨burn_room _, burn_now _⟩
theorem lstep_room (d : D) (y : ActV) : (lstep d y).room = d.room := by
  unfold lstep
  split
  · rename_i h
    rw [act_rmay d y.rs h]
    exact (did_room _ _ _).1
  · split
    · exact (sync_room d).1
    · split <;> rfl
theorem Good.lstep {N : Nat} {d : D} (h : Good N d) (y : ActV) (hs : y.name.size ≤ 20000 ∧ y.to_.size ≤ 20000 ∧ y.s.size ≤ 20000) (hat : y.at_ ≤ 9223372036854775807) : Good (N + (y.s.size + y.name.size + y.to_.size) + 2) (lstep d y) := by
  obtain ⟨h1, h2, h3⟩ := hs
  unfold DK.lstep
  split
  · unfold act ActV.rs
    simp only
    split
    · exact (h.write _ _ _ (by omega) (by omega)).mono (by omega)
    · split
      · exact (h.cut _ _ (by omega)).mono (by omega)
      · split
        · exact (h.move _ _ (by omega) (by omega)).mono (by omega)
        · exact (h.drop _ (by omega)).mono (by omega)
  · split
    · exact h.syncD.mono (by omega)
    · split
      · exact (h.setFuse hat).mono (by omega)
      · exact (h.crash _ _).mono (by omega)
end DK

/-- A disk, and the document's disk beside it. -/
structure Both (w0 w : World) (S : Nat → Prop) (B : Nat) (d : DK.D) (T : List RStep) (fuse : Int) (sv nv tv : Value) : Prop where
  held : Held w0 w S B d
  fs : FsV w sv d.safe
  fn : FsV w nv d.now
  st : StsV w tv T
  os : Off S sv d.safe.length
  on : Off S nv d.now.length
  ot : Off S tv T.length
  rel : RelD d T fuse
theorem FsV.low {w : World} {L : Nat → Prop} {v : Value} {l : DK.Files} (h : FsV w v l) (hL : ∀ k, L k → w.heap.size ≤ k) : Off L v l.length := by
  obtain ⟨p, c, h1, h2, h3⟩ := h
  rcases h3 with h3 | ⟨b, o, hp, hs⟩
  · exact .inl h3
  · by_cases h0 : l.length = 0
    · exact .inl h0
    · refine .inr fun b' hb' hk => ?_
      obtain rfl : b = b' := by rw [h1, hp] at hb'; simpa [Value.ownBlock] using hb'
      have := lt_of_cell (hs 0 (by omega)).1
      have := hL b hk
      simp only at *
      omega
theorem StsV.low {w : World} {L : Nat → Prop} {v : Value} {l : List RStep} (h : StsV w v l) (hL : ∀ k, L k → w.heap.size ≤ k) : Off L v l.length := by
  obtain ⟨p, c, h1, h2, h3⟩ := h
  rcases h3 with h3 | ⟨b, o, hp, hs⟩
  · exact .inl h3
  · by_cases h0 : l.length = 0
    · exact .inl h0
    · refine .inr fun b' hb' hk => ?_
      obtain rfl : b = b' := by rw [h1, hp] at hb'; simpa [Value.ownBlock] using hb'
      have := lt_of_cell (hs 0 (by omega) 0 _ rfl)
      have := hL b hk
      simp only at *
      omega
theorem keepF {w W2 w1 w2 w9 : World} {S S1 L : Nat → Prop} {v v' : Value} {l l' : DK.Files} (h0 : FsV w v l) (ho : Off S v l.length) (hx : Ext w W2) (hg1 : Grew W2 S S1) (h2 : FsV w2 v' l') (hnew : NewOr w1 v v') (ht : Turn L w2 w9)
    (hL : ∀ k, L k → w.heap.size ≤ k ∧ k < w1.heap.size) (hS1 : ∀ k, S1 k → k < w1.heap.size) : FsV w9 v' l' ∧ Off S1 v' l'.length := by
  rcases hnew with rfl | hnew
  · have e : l'.length = l.length := by
      obtain ⟨p, c, h1, _⟩ := h0
      obtain ⟨p', c', h3, _⟩ := h2
      have e := h1.symm.trans h3
      injection e with _ e _
      exact e.symm
    exact ⟨h2.turn ht (by rw [e]; exact h0.low fun k hk => (hL k hk).1), by rw [e]; exact (h0.ext hx).off hg1 ho⟩
  · exact ⟨h2.turn ht (Off.new hnew fun k hk => (hL k hk).2), Off.new hnew hS1⟩
theorem keepT {w W2 w1 w2 w9 : World} {S S1 L : Nat → Prop} {v v' : Value} {l l' : List RStep} (h0 : StsV w v l) (ho : Off S v l.length) (hx : Ext w W2) (hg1 : Grew W2 S S1) (h2 : StsV w2 v' l') (hnew : NewOr w1 v v') (ht : Turn L w2 w9)
    (hL : ∀ k, L k → w.heap.size ≤ k ∧ k < w1.heap.size) (hS1 : ∀ k, S1 k → k < w1.heap.size) : StsV w9 v' l' ∧ Off S1 v' l'.length := by
  rcases hnew with rfl | hnew
  · have e : l'.length = l.length := by
      obtain ⟨p, c, h1, _⟩ := h0
      obtain ⟨p', c', h3, _⟩ := h2
      have e := h1.symm.trans h3
      injection e with _ e _
      exact e.symm
    exact ⟨h2.turn ht (by rw [e]; exact h0.low fun k hk => (hL k hk).1), by rw [e]; exact (h0.ext hx).off hg1 ho⟩
  · exact ⟨h2.turn ht (Off.new hnew fun k hk => (hL k hk).2), Off.new hnew hS1⟩
theorem loose6 {w : World} {X : Nat} {t : TypeId} {a0 a1 a2 a3 a4 a5 : Value} (h : w.heap[X]? = some (.cells #[a0, a1, a2, a3, a4, a5] t (0, 0))) : Loose w.heap[X]? := ⟨_, _, _, h, rfl⟩
theorem DiskAt.lt' {w : World} {S : Nat → Prop} {B : Nat} {d : DK.D} (h : DiskAt w S B d) : ∀ k, S k → k < w.heap.size := by
  obtain ⟨_, _, _, hi⟩ := h
  exact hi.lt
/-- What stands when an act has been done upon both: the disk's turn ahead of w1, the document's from w1 to w2; then two blocks of the caller's own turn. -/
theorem both_end {w0 w W2 w1 w2 w9 : World} {S S1 : Nat → Prop} {B X : Nat} {d d' : DK.D} {T T' : List RStep} {fuse fuse' : Int} {sv nv tv sv' nv' tv' : Value} (h : Both w0 w S B d T fuse sv nv tv) (hx : Ext w W2) (hX : w.heap.size ≤ X)
    (h1 : Held w0 w1 S1 B d') (ht1 : Turn S W2 w1) (hg1 : Grew W2 S S1) (hR : X + 1 + 1 < W2.heap.size) (g2 : Ext w1 w2) (g3 : w2.grownBy w9 (some X)) (w10 : World) (g4 : w9.grownBy w10 (some (X + 1 + 1))) (hl3 : Loose w2.heap[X]?) (hl4 : Loose w9.heap[X + 1 + 1]?)
    (hs : FsV w2 sv' d'.safe) (hn : FsV w2 nv' d'.now) (hst : StsV w2 tv' T') (os : NewOr w1 sv sv' ∨ (NewOr w1 nv sv')) (on : NewOr w1 nv nv' ∨ NewOr w1 sv nv') (ot : NewOr w1 tv tv') (hr : RelD d' T' fuse') : Both w0 w10 S1 B d' T' fuse' sv' nv' tv' ∧ Turn S w w10 ∧ Grew w S S1 := by
  have hlt := h1.disk.lt'
  have hno : ∀ k, (k = X ∨ k = X + 1 + 1) → ¬ S1 k := fun k hk hS => by
    rcases hg1 k hS with h2 | h2
    · have := h.held.disk.lt' k h2; omega
    · omega
  have htL : Turn (fun k => k = X ∨ k = X + 1 + 1) w2 w10 := ((Turn.refl _ w2).grown g3 (.inl (.inl rfl))).grown g4 (.inl (.inr rfl))
  have hL : ∀ k, (k = X ∨ k = X + 1 + 1) → w.heap.size ≤ k ∧ k < w1.heap.size := fun k hk => by have := ht1.size; omega
  have ks : FsV w10 sv' d'.safe ∧ Off S1 sv' d'.safe.length := by
    rcases os with os | os
    · exact keepF h.fs h.os hx hg1 hs os htL hL hlt
    · exact keepF h.fn h.on hx hg1 hs os htL hL hlt
  have kn : FsV w10 nv' d'.now ∧ Off S1 nv' d'.now.length := by
    rcases on with on | on
    · exact keepF h.fn h.on hx hg1 hn on htL hL hlt
    · exact keepF h.fs h.os hx hg1 hn on htL hL hlt
  have kt := keepT h.st h.ot hx hg1 hst ot htL hL hlt
  have h0 := h.held.ext.size
  refine ⟨⟨⟨((h1.disk.ext g2).past g3 hl3 (hno _ (.inl rfl))).past g4 hl4 (hno _ (.inr rfl)), ((h1.ext.trans g2).grown g3 (fun k e => by injection e with e; omega)).grown g4 (fun k e => by injection e with e; omega), h1.new⟩, ks.1, kn.1, kt.1, ks.2, kn.2, kt.2, hr⟩, ?_, ?_⟩
  · have hz := hx.size
    exact ((((Turn.of_ext hx).trans' ht1).more g2).grown g3 (.inr hX)).grown g4 (.inr (by omega))
  · exact hg1.from_ hx.size

set_option maxRecDepth 100000 in
set_option maxHeartbeats 4000000 in
theorem law_step_0 {w0 w : World} {S : Nat → Prop} {B : Nat} {d : DK.D} {T : List RStep} {fuse : Int} {sv nv tv : Value} {N : Nat} (h : Both w0 w S B d T fuse sv nv tv) (hg : DK.Good N d) (hN : N ≤ 30000) (y : ActV) (hy : y.name.size ≤ 20000 ∧ y.to_.size ≤ 20000 ∧ y.s.size ≤ 20000) (hwf : y.Wf) (hk : y.kind = 0) :
    Calls Try.prog 18 #[.pointer (some ⟨B, 0, none⟩), .agg (rdCells d.room sv nv tv d.dead fuse), .agg (actCells y)] w fun e w' => ∃ S' sv' nv' tv' T' fuse', e = .returned (.tuple #[.agg (rdCells (DK.lstep d y).room sv' nv' tv' (DK.lstep d y).dead fuse'), .bool true]) ∧ Both w0 w' S' B (DK.lstep d y) T' fuse' sv' nv' tv' ∧ Turn S w w' ∧ Grew w S S' := by
  have HB := Lib.hid h
  have HGD := Lib.hid hg
  obtain ⟨p1, c1, rfl⟩ := h.fs.slice
  obtain ⟨p2, c2, rfl⟩ := h.fn.slice
  obtain ⟨p3, c3, rfl⟩ := h.st.slice
  rw [DK.lstep_room]
  have hlt := h.held.disk.lt'
  unfold rdCells actCells
  obtain ⟨kd, nm, tt, at', nn, s⟩ := y
  obtain ⟨y1, y2, y3⟩ := hy
  obtain ⟨wf1, wf2⟩ := hwf
  simp only at y1 y2 y3 wf1 wf2 hk ⊢
  obtain ⟨m1, hm1⟩ : ∃ m, d.safe.length = m := ⟨_, rfl⟩
  obtain ⟨m2, hm2⟩ : ∃ m, d.now.length = m := ⟨_, rfl⟩
  obtain ⟨m3, hm3⟩ : ∃ m, T.length = m := ⟨_, rfl⟩
  obtain ⟨room, hroom⟩ : ∃ r, d.room = r := ⟨_, rfl⟩
  obtain ⟨dead, hdead⟩ : ∃ r, d.dead = r := ⟨_, rfl⟩
  have HRO := Lib.hid hroom
  have HDE := Lib.hid hdead
  rw [hm1, hm2, hm3, hroom, hdead]
  rw [hm1, hm2, hm3] at HB
  obtain ⟨g1, g2, g3, hx⟩ := three_alloc w #[.int .i64 room, .slice p1 m1 c1, .slice p2 m2 c2, .slice p3 m3 c3, .bool dead, .int .i64 fuse] #[.int .i64 kd, .string nm, .string tt, .int .i64 at', .int .i64 nn, .string s] #[.int .i64 0, .slice none 0 0, .slice none 0 0, .slice none 0 0, .bool false, .int .i64 0] 44 29 44
  have HX := Lib.hid hx
  have HLT := Lib.hid hlt
  clear hx h hg hm1 hm2 hm3 hroom hdead hlt
  subst hk
  go_enter Try.func18, Try.ntmps18
  go_upto_region 1 with fail
  generalize hW : ((w.alloc _).alloc _).alloc _ = W at *
  generalize hXw : w.heap.size = X at g1 g2 g3 ⊢
  have HXX := Lib.hid hXw
  have HG1 := Lib.hid g1
  have HG2 := Lib.hid g2
  have HG3 := Lib.hid g3
  obtain ⟨a0, a1, a2, a3, a4, a5⟩ := box6 g2
  clear hW hXw g1 g2 g3
  go_upto_region 3 with fail
  have xs := (Ext.refl W).alloc (.cells #[.int .i64 0, .string nm, .string tt, .int .i64 at', .string s] 75)
  have HK1 := Lib.hid ((xs.block (Array.getElem?_eq_some_iff.1 HG1.out).1).trans HG1.out)
  have HK2 := Lib.hid ((xs.block (Array.getElem?_eq_some_iff.1 HG2.out).1).trans HG2.out)
  have HK3 := Lib.hid ((xs.block (Array.getElem?_eq_some_iff.1 HG3.out).1).trans HG3.out)
  have HK4 := Lib.hid (heap_alloc_new W (.cells #[.int .i64 0, .string nm, .string tt, .int .i64 at', .string s] 75))
  have HXW := Lib.hid (HX.out.trans xs)
  have hHn : ¬ S W.heap.size := fun hS => by have := HLT.out _ hS; have := HX.out.size; omega
  have hXn : ∀ k, X ≤ k → ¬ S k := fun k hk hS => by have := HLT.out _ hS; have := HXX.out; omega
  have HHN := Lib.hid hHn
  have HXN := Lib.hid hXn
  clear a0 a1 a2 a3 a4 a5 xs hHn hXn
  generalize W.alloc (.cells #[.int .i64 0, .string nm, .string tt, .int .i64 at', .string s] 75) = W2 at *
  generalize W.heap.size = H at *
  clear HG1 HG2 HG3 HX
  have HH2 := Lib.hid (HB.out.held.more HXW.out)
  obtain ⟨a0, a1, a2, a3, a4, a5⟩ := box6 HK2.out
  obtain ⟨D', E, hDE⟩ : ∃ D' E, DK.write d nm at' s = (D', E) := ⟨_, _, rfl⟩
  have HLS : Hid (DK.lstep d ⟨0, nm, tt, at', nn, s⟩ = D') := Lib.hid (by
    unfold DK.lstep
    rw [if_pos ⟨by simp, by simp⟩]
    show (DK.write d nm at' s).1 = D'
    rw [hDE])
  have HAC : Hid (DK.did d (DK.rmay d ⟨0, nm, tt, at', s⟩) (RStep.st ⟨0, nm, tt, at', s⟩) = (D', E)) := Lib.hid (by
    rw [← DK.act_rmay d ⟨0, nm, tt, at', s⟩ ⟨by simp, by simp⟩, ← hDE]
    rfl)
  have HC := Lib.hid (disk_write HH2.out.disk HGD.out nm s at' (by omega))
  rw [hDE] at HC
  have HSAFE : Hid (D'.room = room ∧ D'.safe = d.safe) := Lib.hid (by
    have h := DK.did_room d (DK.rmay d ⟨0, nm, tt, at', s⟩) (RStep.st ⟨0, nm, tt, at', s⟩)
    rw [HAC.out, HRO.out] at h
    exact h)
  clear hDE
  go_wp2_with fail
  refine HC.out.mono ?_
  rintro e w1 ⟨rfl, hl⟩
  obtain ⟨S1, h1, ht1, hg1⟩ := HH2.out.next hl
  have HH1 := Lib.hid h1
  have HT1 := Lib.hid ht1
  have HGR1 := Lib.hid hg1
  have HI1 := Lib.hid ((ht1.block X (Array.getElem?_eq_some_iff.1 HK1.out).1 (HXN.out X (Nat.le_refl _))).trans HK1.out)
  have HI3 := Lib.hid ((ht1.block (X + 1 + 1) (Array.getElem?_eq_some_iff.1 HK3.out).1 (HXN.out _ (by omega))).trans HK3.out)
  have HI4 := Lib.hid ((ht1.block H (Array.getElem?_eq_some_iff.1 HK4.out).1 HHN.out).trans HK4.out)
  have fn1 := (HB.out.fn.ext HXW.out).turn ht1 HB.out.on
  have fs1 := (HB.out.fs.ext HXW.out).turn ht1 HB.out.os
  have ft1 := (HB.out.st.ext HXW.out).turn ht1 HB.out.ot
  have hdo := ref_step fn1 ft1 fs1 HB.out.rel HGD.out (by omega) ⟨0, nm, tt, at', s⟩ ⟨y1, y2, y3⟩ ⟨by simp, by simp⟩
  unfold rdCells rsCells at hdo
  simp only at hdo
  rw [HRO.out, HDE.out, HAC.out] at hdo
  simp only at hdo
  have HDO := Lib.hid hdo
  have HFS1 := Lib.hid fs1
  obtain ⟨k0, k1, k2, k3, k4, k5⟩ := box6 HI1.out
  obtain ⟨q0, q1, q2, q3, q4, q5⟩ := boxF HI1.out
  obtain ⟨e0, e1, e2, e3, e4⟩ := box5 HI4.out
  clear a0 a1 a2 a3 a4 a5 hl h1 ht1 hg1 fn1 fs1 ft1 hdo
  go_wp2_with fail
  refine HDO.out.mono ?_
  rintro e w2 ⟨nv', tv', T', fz, rfl, hfn, hft, hre, hx2, hon, hot⟩
  have HFN := Lib.hid hfn
  have HFT := Lib.hid hft
  have HREL := Lib.hid hre
  have HG2 := Lib.hid hx2
  have HON := Lib.hid hon
  have HOT := Lib.hid hot
  have HFS : Hid (FsV w2 (.slice p1 m1 c1) D'.safe) := Lib.hid (by rw [HSAFE.out.2]; exact HFS1.out.ext hx2)
  have hj1 := (hx2.block (Array.getElem?_eq_some_iff.1 HI1.out).1).trans HI1.out
  have HJ1 := Lib.hid hj1
  have HJ3 := Lib.hid ((hx2.block (Array.getElem?_eq_some_iff.1 HI3.out).1).trans HI3.out)
  obtain ⟨p5, c5, rfl⟩ := hfn.slice
  obtain ⟨p6, c6, rfl⟩ := hft.slice
  clear k0 k1 k2 k3 k4 k5 q0 q1 q2 q3 q4 q5 e0 e1 e2 e3 e4 hfn hft hre hx2 hon hot
  obtain ⟨m5, hm5⟩ : ∃ m, D'.now.length = m := ⟨_, rfl⟩
  obtain ⟨m6, hm6⟩ : ∃ m, T'.length = m := ⟨_, rfl⟩
  obtain ⟨dd, hdd⟩ : ∃ r, D'.dead = r := ⟨_, rfl⟩
  rw [hm5] at HFN HON ⊢
  rw [hm6] at HFT HOT ⊢
  rw [hdd]
  have HDD := Lib.hid hdd
  clear hm5 hm6 hdd
  obtain ⟨k0, k1, k2, k3, k4, k5⟩ := box6 hj1
  obtain ⟨q0, q1, q2, q3, q4, q5⟩ := boxF hj1
  clear hj1
  have hxA := set6_heap HJ1.out (.int .i64 room) (.slice p1 m1 c1) (.slice p5 m5 c5) (.slice p6 m6 c6) (.bool dd) (.int .i64 fz)
  have gA := grown_set6 w2 X (.int .i64 room) (.slice p1 m1 c1) (.slice p5 m5 c5) (.slice p6 m6 c6) (.bool dd) (.int .i64 fz)
  have hrA := (gA.block (X + 1 + 1) (Array.getElem?_eq_some_iff.1 HJ3.out).1 (by intro e; injection e with e; omega)).trans HJ3.out
  unfold set6 at hxA gA hrA
  have HXA := Lib.hid hxA
  have HGA := Lib.hid gA
  have HRA := Lib.hid hrA
  clear hxA gA hrA
  go_upto_region 24 with fail
  clear k0 k1 k2 k3 k4 k5 q0 q1 q2 q3 q4 q5
  generalize (((((w2.setCell _ _).setCell _ _).setCell _ _).setCell _ _).setCell _ _).setCell _ _ = w9 at *
  obtain ⟨f0, f1, f2, f3, f4, f5⟩ := box6 HXA.out
  obtain ⟨r0, r1, r2, r3, r4, r5⟩ := box6 HRA.out
  obtain ⟨s0, s1, s2, s3, s4, s5⟩ := boxF HRA.out
  go_wp2
  refine bodyPost_ret (ret_D rfl _ _ (X + 1 + 1) _ _ _ _ _ _ _ _ _ rfl rfl (set6_heap HRA.out _ _ _ _ _ _)) rfl ?_
  have gB := grown_set6 w9 (X + 1 + 1) (.int .i64 room) (.slice p1 m1 c1) (.slice p5 m5 c5) (.slice p6 m6 c6) (.bool dd) (.int .i64 fz)
  rw [HLS.out, HDD.out]
  have hend := both_end HB.out HXW.out (by have := HXX.out; omega) HH1.out HT1.out HGR1.out (Array.getElem?_eq_some_iff.1 HK3.out).1 HG2.out HGA.out _ gB (loose6 HJ1.out) (loose6 HRA.out) HFS.out HFN.out HFT.out (.inl (.inl rfl)) (.inl HON.out) HOT.out HREL.out
  exact ⟨S1, _, _, _, T', fz, rfl, hend⟩

set_option maxRecDepth 100000 in
set_option maxHeartbeats 4000000 in
theorem law_step_1 {w0 w : World} {S : Nat → Prop} {B : Nat} {d : DK.D} {T : List RStep} {fuse : Int} {sv nv tv : Value} {N : Nat} (h : Both w0 w S B d T fuse sv nv tv) (hg : DK.Good N d) (hN : N ≤ 30000) (y : ActV) (hy : y.name.size ≤ 20000 ∧ y.to_.size ≤ 20000 ∧ y.s.size ≤ 20000) (hwf : y.Wf) (hk : y.kind = 1) :
    Calls Try.prog 18 #[.pointer (some ⟨B, 0, none⟩), .agg (rdCells d.room sv nv tv d.dead fuse), .agg (actCells y)] w fun e w' => ∃ S' sv' nv' tv' T' fuse', e = .returned (.tuple #[.agg (rdCells (DK.lstep d y).room sv' nv' tv' (DK.lstep d y).dead fuse'), .bool true]) ∧ Both w0 w' S' B (DK.lstep d y) T' fuse' sv' nv' tv' ∧ Turn S w w' ∧ Grew w S S' := by
  have HB := Lib.hid h
  have HGD := Lib.hid hg
  obtain ⟨p1, c1, rfl⟩ := h.fs.slice
  obtain ⟨p2, c2, rfl⟩ := h.fn.slice
  obtain ⟨p3, c3, rfl⟩ := h.st.slice
  rw [DK.lstep_room]
  have hlt := h.held.disk.lt'
  unfold rdCells actCells
  obtain ⟨kd, nm, tt, at', nn, s⟩ := y
  obtain ⟨y1, y2, y3⟩ := hy
  obtain ⟨wf1, wf2⟩ := hwf
  simp only at y1 y2 y3 wf1 wf2 hk ⊢
  obtain ⟨m1, hm1⟩ : ∃ m, d.safe.length = m := ⟨_, rfl⟩
  obtain ⟨m2, hm2⟩ : ∃ m, d.now.length = m := ⟨_, rfl⟩
  obtain ⟨m3, hm3⟩ : ∃ m, T.length = m := ⟨_, rfl⟩
  obtain ⟨room, hroom⟩ : ∃ r, d.room = r := ⟨_, rfl⟩
  obtain ⟨dead, hdead⟩ : ∃ r, d.dead = r := ⟨_, rfl⟩
  have HRO := Lib.hid hroom
  have HDE := Lib.hid hdead
  rw [hm1, hm2, hm3, hroom, hdead]
  rw [hm1, hm2, hm3] at HB
  obtain ⟨g1, g2, g3, hx⟩ := three_alloc w #[.int .i64 room, .slice p1 m1 c1, .slice p2 m2 c2, .slice p3 m3 c3, .bool dead, .int .i64 fuse] #[.int .i64 kd, .string nm, .string tt, .int .i64 at', .int .i64 nn, .string s] #[.int .i64 0, .slice none 0 0, .slice none 0 0, .slice none 0 0, .bool false, .int .i64 0] 44 29 44
  have HX := Lib.hid hx
  have HLT := Lib.hid hlt
  clear hx h hg hm1 hm2 hm3 hroom hdead hlt
  subst hk
  go_enter Try.func18, Try.ntmps18
  go_upto_region 1 with fail
  generalize hW : ((w.alloc _).alloc _).alloc _ = W at *
  generalize hXw : w.heap.size = X at g1 g2 g3 ⊢
  have HXX := Lib.hid hXw
  have HG1 := Lib.hid g1
  have HG2 := Lib.hid g2
  have HG3 := Lib.hid g3
  obtain ⟨a0, a1, a2, a3, a4, a5⟩ := box6 g2
  clear hW hXw g1 g2 g3
  go_upto_region 3 with fail
  have xs := (Ext.refl W).alloc (.cells #[.int .i64 1, .string nm, .string tt, .int .i64 at', .string s] 75)
  have HK1 := Lib.hid ((xs.block (Array.getElem?_eq_some_iff.1 HG1.out).1).trans HG1.out)
  have HK2 := Lib.hid ((xs.block (Array.getElem?_eq_some_iff.1 HG2.out).1).trans HG2.out)
  have HK3 := Lib.hid ((xs.block (Array.getElem?_eq_some_iff.1 HG3.out).1).trans HG3.out)
  have HK4 := Lib.hid (heap_alloc_new W (.cells #[.int .i64 1, .string nm, .string tt, .int .i64 at', .string s] 75))
  have HXW := Lib.hid (HX.out.trans xs)
  have hHn : ¬ S W.heap.size := fun hS => by have := HLT.out _ hS; have := HX.out.size; omega
  have hXn : ∀ k, X ≤ k → ¬ S k := fun k hk hS => by have := HLT.out _ hS; have := HXX.out; omega
  have HHN := Lib.hid hHn
  have HXN := Lib.hid hXn
  clear a0 a1 a2 a3 a4 a5 xs hHn hXn
  generalize W.alloc (.cells #[.int .i64 1, .string nm, .string tt, .int .i64 at', .string s] 75) = W2 at *
  generalize W.heap.size = H at *
  clear HG1 HG2 HG3 HX
  have HH2 := Lib.hid (HB.out.held.more HXW.out)
  obtain ⟨a0, a1, a2, a3, a4, a5⟩ := box6 HK2.out
  obtain ⟨D', E, hDE⟩ : ∃ D' E, DK.cut d nm at' = (D', E) := ⟨_, _, rfl⟩
  have HLS : Hid (DK.lstep d ⟨1, nm, tt, at', nn, s⟩ = D') := Lib.hid (by
    unfold DK.lstep
    rw [if_pos ⟨by simp, by simp⟩]
    show (DK.cut d nm at').1 = D'
    rw [hDE])
  have HAC : Hid (DK.did d (DK.rmay d ⟨1, nm, tt, at', s⟩) (RStep.st ⟨1, nm, tt, at', s⟩) = (D', E)) := Lib.hid (by
    rw [← DK.act_rmay d ⟨1, nm, tt, at', s⟩ ⟨by simp, by simp⟩, ← hDE]
    rfl)
  have HC := Lib.hid (disk_cut HH2.out.disk HGD.out nm at' (by omega))
  rw [hDE] at HC
  have HSAFE : Hid (D'.room = room ∧ D'.safe = d.safe) := Lib.hid (by
    have h := DK.did_room d (DK.rmay d ⟨1, nm, tt, at', s⟩) (RStep.st ⟨1, nm, tt, at', s⟩)
    rw [HAC.out, HRO.out] at h
    exact h)
  clear hDE
  go_wp2_with fail
  refine HC.out.mono ?_
  rintro e w1 ⟨rfl, hl⟩
  obtain ⟨S1, h1, ht1, hg1⟩ := HH2.out.next hl
  have HH1 := Lib.hid h1
  have HT1 := Lib.hid ht1
  have HGR1 := Lib.hid hg1
  have HI1 := Lib.hid ((ht1.block X (Array.getElem?_eq_some_iff.1 HK1.out).1 (HXN.out X (Nat.le_refl _))).trans HK1.out)
  have HI3 := Lib.hid ((ht1.block (X + 1 + 1) (Array.getElem?_eq_some_iff.1 HK3.out).1 (HXN.out _ (by omega))).trans HK3.out)
  have HI4 := Lib.hid ((ht1.block H (Array.getElem?_eq_some_iff.1 HK4.out).1 HHN.out).trans HK4.out)
  have fn1 := (HB.out.fn.ext HXW.out).turn ht1 HB.out.on
  have fs1 := (HB.out.fs.ext HXW.out).turn ht1 HB.out.os
  have ft1 := (HB.out.st.ext HXW.out).turn ht1 HB.out.ot
  have hdo := ref_step fn1 ft1 fs1 HB.out.rel HGD.out (by omega) ⟨1, nm, tt, at', s⟩ ⟨y1, y2, y3⟩ ⟨by simp, by simp⟩
  unfold rdCells rsCells at hdo
  simp only at hdo
  rw [HRO.out, HDE.out, HAC.out] at hdo
  simp only at hdo
  have HDO := Lib.hid hdo
  have HFS1 := Lib.hid fs1
  obtain ⟨k0, k1, k2, k3, k4, k5⟩ := box6 HI1.out
  obtain ⟨q0, q1, q2, q3, q4, q5⟩ := boxF HI1.out
  obtain ⟨e0, e1, e2, e3, e4⟩ := box5 HI4.out
  clear a0 a1 a2 a3 a4 a5 hl h1 ht1 hg1 fn1 fs1 ft1 hdo
  go_wp2_with fail
  refine HDO.out.mono ?_
  rintro e w2 ⟨nv', tv', T', fz, rfl, hfn, hft, hre, hx2, hon, hot⟩
  have HFN := Lib.hid hfn
  have HFT := Lib.hid hft
  have HREL := Lib.hid hre
  have HG2 := Lib.hid hx2
  have HON := Lib.hid hon
  have HOT := Lib.hid hot
  have HFS : Hid (FsV w2 (.slice p1 m1 c1) D'.safe) := Lib.hid (by rw [HSAFE.out.2]; exact HFS1.out.ext hx2)
  have hj1 := (hx2.block (Array.getElem?_eq_some_iff.1 HI1.out).1).trans HI1.out
  have HJ1 := Lib.hid hj1
  have HJ3 := Lib.hid ((hx2.block (Array.getElem?_eq_some_iff.1 HI3.out).1).trans HI3.out)
  obtain ⟨p5, c5, rfl⟩ := hfn.slice
  obtain ⟨p6, c6, rfl⟩ := hft.slice
  clear k0 k1 k2 k3 k4 k5 q0 q1 q2 q3 q4 q5 e0 e1 e2 e3 e4 hfn hft hre hx2 hon hot
  obtain ⟨m5, hm5⟩ : ∃ m, D'.now.length = m := ⟨_, rfl⟩
  obtain ⟨m6, hm6⟩ : ∃ m, T'.length = m := ⟨_, rfl⟩
  obtain ⟨dd, hdd⟩ : ∃ r, D'.dead = r := ⟨_, rfl⟩
  rw [hm5] at HFN HON ⊢
  rw [hm6] at HFT HOT ⊢
  rw [hdd]
  have HDD := Lib.hid hdd
  clear hm5 hm6 hdd
  obtain ⟨k0, k1, k2, k3, k4, k5⟩ := box6 hj1
  obtain ⟨q0, q1, q2, q3, q4, q5⟩ := boxF hj1
  clear hj1
  have hxA := set6_heap HJ1.out (.int .i64 room) (.slice p1 m1 c1) (.slice p5 m5 c5) (.slice p6 m6 c6) (.bool dd) (.int .i64 fz)
  have gA := grown_set6 w2 X (.int .i64 room) (.slice p1 m1 c1) (.slice p5 m5 c5) (.slice p6 m6 c6) (.bool dd) (.int .i64 fz)
  have hrA := (gA.block (X + 1 + 1) (Array.getElem?_eq_some_iff.1 HJ3.out).1 (by intro e; injection e with e; omega)).trans HJ3.out
  unfold set6 at hxA gA hrA
  have HXA := Lib.hid hxA
  have HGA := Lib.hid gA
  have HRA := Lib.hid hrA
  clear hxA gA hrA
  go_upto_region 24 with fail
  clear k0 k1 k2 k3 k4 k5 q0 q1 q2 q3 q4 q5
  generalize (((((w2.setCell _ _).setCell _ _).setCell _ _).setCell _ _).setCell _ _).setCell _ _ = w9 at *
  obtain ⟨f0, f1, f2, f3, f4, f5⟩ := box6 HXA.out
  obtain ⟨r0, r1, r2, r3, r4, r5⟩ := box6 HRA.out
  obtain ⟨s0, s1, s2, s3, s4, s5⟩ := boxF HRA.out
  go_wp2
  refine bodyPost_ret (ret_D rfl _ _ (X + 1 + 1) _ _ _ _ _ _ _ _ _ rfl rfl (set6_heap HRA.out _ _ _ _ _ _)) rfl ?_
  have gB := grown_set6 w9 (X + 1 + 1) (.int .i64 room) (.slice p1 m1 c1) (.slice p5 m5 c5) (.slice p6 m6 c6) (.bool dd) (.int .i64 fz)
  rw [HLS.out, HDD.out]
  have hend := both_end HB.out HXW.out (by have := HXX.out; omega) HH1.out HT1.out HGR1.out (Array.getElem?_eq_some_iff.1 HK3.out).1 HG2.out HGA.out _ gB (loose6 HJ1.out) (loose6 HRA.out) HFS.out HFN.out HFT.out (.inl (.inl rfl)) (.inl HON.out) HOT.out HREL.out
  exact ⟨S1, _, _, _, T', fz, rfl, hend⟩

set_option maxRecDepth 100000 in
set_option maxHeartbeats 4000000 in
theorem law_step_2 {w0 w : World} {S : Nat → Prop} {B : Nat} {d : DK.D} {T : List RStep} {fuse : Int} {sv nv tv : Value} {N : Nat} (h : Both w0 w S B d T fuse sv nv tv) (hg : DK.Good N d) (hN : N ≤ 30000) (y : ActV) (hy : y.name.size ≤ 20000 ∧ y.to_.size ≤ 20000 ∧ y.s.size ≤ 20000) (hwf : y.Wf) (hk : y.kind = 2) :
    Calls Try.prog 18 #[.pointer (some ⟨B, 0, none⟩), .agg (rdCells d.room sv nv tv d.dead fuse), .agg (actCells y)] w fun e w' => ∃ S' sv' nv' tv' T' fuse', e = .returned (.tuple #[.agg (rdCells (DK.lstep d y).room sv' nv' tv' (DK.lstep d y).dead fuse'), .bool true]) ∧ Both w0 w' S' B (DK.lstep d y) T' fuse' sv' nv' tv' ∧ Turn S w w' ∧ Grew w S S' := by
  have HB := Lib.hid h
  have HGD := Lib.hid hg
  obtain ⟨p1, c1, rfl⟩ := h.fs.slice
  obtain ⟨p2, c2, rfl⟩ := h.fn.slice
  obtain ⟨p3, c3, rfl⟩ := h.st.slice
  rw [DK.lstep_room]
  have hlt := h.held.disk.lt'
  unfold rdCells actCells
  obtain ⟨kd, nm, tt, at', nn, s⟩ := y
  obtain ⟨y1, y2, y3⟩ := hy
  obtain ⟨wf1, wf2⟩ := hwf
  simp only at y1 y2 y3 wf1 wf2 hk ⊢
  obtain ⟨m1, hm1⟩ : ∃ m, d.safe.length = m := ⟨_, rfl⟩
  obtain ⟨m2, hm2⟩ : ∃ m, d.now.length = m := ⟨_, rfl⟩
  obtain ⟨m3, hm3⟩ : ∃ m, T.length = m := ⟨_, rfl⟩
  obtain ⟨room, hroom⟩ : ∃ r, d.room = r := ⟨_, rfl⟩
  obtain ⟨dead, hdead⟩ : ∃ r, d.dead = r := ⟨_, rfl⟩
  have HRO := Lib.hid hroom
  have HDE := Lib.hid hdead
  rw [hm1, hm2, hm3, hroom, hdead]
  rw [hm1, hm2, hm3] at HB
  obtain ⟨g1, g2, g3, hx⟩ := three_alloc w #[.int .i64 room, .slice p1 m1 c1, .slice p2 m2 c2, .slice p3 m3 c3, .bool dead, .int .i64 fuse] #[.int .i64 kd, .string nm, .string tt, .int .i64 at', .int .i64 nn, .string s] #[.int .i64 0, .slice none 0 0, .slice none 0 0, .slice none 0 0, .bool false, .int .i64 0] 44 29 44
  have HX := Lib.hid hx
  have HLT := Lib.hid hlt
  clear hx h hg hm1 hm2 hm3 hroom hdead hlt
  subst hk
  go_enter Try.func18, Try.ntmps18
  go_upto_region 1 with fail
  generalize hW : ((w.alloc _).alloc _).alloc _ = W at *
  generalize hXw : w.heap.size = X at g1 g2 g3 ⊢
  have HXX := Lib.hid hXw
  have HG1 := Lib.hid g1
  have HG2 := Lib.hid g2
  have HG3 := Lib.hid g3
  obtain ⟨a0, a1, a2, a3, a4, a5⟩ := box6 g2
  clear hW hXw g1 g2 g3
  go_upto_region 3 with fail
  have xs := (Ext.refl W).alloc (.cells #[.int .i64 2, .string nm, .string tt, .int .i64 at', .string s] 75)
  have HK1 := Lib.hid ((xs.block (Array.getElem?_eq_some_iff.1 HG1.out).1).trans HG1.out)
  have HK2 := Lib.hid ((xs.block (Array.getElem?_eq_some_iff.1 HG2.out).1).trans HG2.out)
  have HK3 := Lib.hid ((xs.block (Array.getElem?_eq_some_iff.1 HG3.out).1).trans HG3.out)
  have HK4 := Lib.hid (heap_alloc_new W (.cells #[.int .i64 2, .string nm, .string tt, .int .i64 at', .string s] 75))
  have HXW := Lib.hid (HX.out.trans xs)
  have hHn : ¬ S W.heap.size := fun hS => by have := HLT.out _ hS; have := HX.out.size; omega
  have hXn : ∀ k, X ≤ k → ¬ S k := fun k hk hS => by have := HLT.out _ hS; have := HXX.out; omega
  have HHN := Lib.hid hHn
  have HXN := Lib.hid hXn
  clear a0 a1 a2 a3 a4 a5 xs hHn hXn
  generalize W.alloc (.cells #[.int .i64 2, .string nm, .string tt, .int .i64 at', .string s] 75) = W2 at *
  generalize W.heap.size = H at *
  clear HG1 HG2 HG3 HX
  have HH2 := Lib.hid (HB.out.held.more HXW.out)
  obtain ⟨a0, a1, a2, a3, a4, a5⟩ := box6 HK2.out
  obtain ⟨D', E, hDE⟩ : ∃ D' E, DK.move d nm tt = (D', E) := ⟨_, _, rfl⟩
  have HLS : Hid (DK.lstep d ⟨2, nm, tt, at', nn, s⟩ = D') := Lib.hid (by
    unfold DK.lstep
    rw [if_pos ⟨by simp, by simp⟩]
    show (DK.move d nm tt).1 = D'
    rw [hDE])
  have HAC : Hid (DK.did d (DK.rmay d ⟨2, nm, tt, at', s⟩) (RStep.st ⟨2, nm, tt, at', s⟩) = (D', E)) := Lib.hid (by
    rw [← DK.act_rmay d ⟨2, nm, tt, at', s⟩ ⟨by simp, by simp⟩, ← hDE]
    rfl)
  have HC := Lib.hid (disk_move HH2.out.disk HGD.out nm tt (by omega))
  rw [hDE] at HC
  have HSAFE : Hid (D'.room = room ∧ D'.safe = d.safe) := Lib.hid (by
    have h := DK.did_room d (DK.rmay d ⟨2, nm, tt, at', s⟩) (RStep.st ⟨2, nm, tt, at', s⟩)
    rw [HAC.out, HRO.out] at h
    exact h)
  clear hDE
  go_wp2_with fail
  refine HC.out.mono ?_
  rintro e w1 ⟨rfl, hl⟩
  obtain ⟨S1, h1, ht1, hg1⟩ := HH2.out.next hl
  have HH1 := Lib.hid h1
  have HT1 := Lib.hid ht1
  have HGR1 := Lib.hid hg1
  have HI1 := Lib.hid ((ht1.block X (Array.getElem?_eq_some_iff.1 HK1.out).1 (HXN.out X (Nat.le_refl _))).trans HK1.out)
  have HI3 := Lib.hid ((ht1.block (X + 1 + 1) (Array.getElem?_eq_some_iff.1 HK3.out).1 (HXN.out _ (by omega))).trans HK3.out)
  have HI4 := Lib.hid ((ht1.block H (Array.getElem?_eq_some_iff.1 HK4.out).1 HHN.out).trans HK4.out)
  have fn1 := (HB.out.fn.ext HXW.out).turn ht1 HB.out.on
  have fs1 := (HB.out.fs.ext HXW.out).turn ht1 HB.out.os
  have ft1 := (HB.out.st.ext HXW.out).turn ht1 HB.out.ot
  have hdo := ref_step fn1 ft1 fs1 HB.out.rel HGD.out (by omega) ⟨2, nm, tt, at', s⟩ ⟨y1, y2, y3⟩ ⟨by simp, by simp⟩
  unfold rdCells rsCells at hdo
  simp only at hdo
  rw [HRO.out, HDE.out, HAC.out] at hdo
  simp only at hdo
  have HDO := Lib.hid hdo
  have HFS1 := Lib.hid fs1
  obtain ⟨k0, k1, k2, k3, k4, k5⟩ := box6 HI1.out
  obtain ⟨q0, q1, q2, q3, q4, q5⟩ := boxF HI1.out
  obtain ⟨e0, e1, e2, e3, e4⟩ := box5 HI4.out
  clear a0 a1 a2 a3 a4 a5 hl h1 ht1 hg1 fn1 fs1 ft1 hdo
  go_wp2_with fail
  refine HDO.out.mono ?_
  rintro e w2 ⟨nv', tv', T', fz, rfl, hfn, hft, hre, hx2, hon, hot⟩
  have HFN := Lib.hid hfn
  have HFT := Lib.hid hft
  have HREL := Lib.hid hre
  have HG2 := Lib.hid hx2
  have HON := Lib.hid hon
  have HOT := Lib.hid hot
  have HFS : Hid (FsV w2 (.slice p1 m1 c1) D'.safe) := Lib.hid (by rw [HSAFE.out.2]; exact HFS1.out.ext hx2)
  have hj1 := (hx2.block (Array.getElem?_eq_some_iff.1 HI1.out).1).trans HI1.out
  have HJ1 := Lib.hid hj1
  have HJ3 := Lib.hid ((hx2.block (Array.getElem?_eq_some_iff.1 HI3.out).1).trans HI3.out)
  obtain ⟨p5, c5, rfl⟩ := hfn.slice
  obtain ⟨p6, c6, rfl⟩ := hft.slice
  clear k0 k1 k2 k3 k4 k5 q0 q1 q2 q3 q4 q5 e0 e1 e2 e3 e4 hfn hft hre hx2 hon hot
  obtain ⟨m5, hm5⟩ : ∃ m, D'.now.length = m := ⟨_, rfl⟩
  obtain ⟨m6, hm6⟩ : ∃ m, T'.length = m := ⟨_, rfl⟩
  obtain ⟨dd, hdd⟩ : ∃ r, D'.dead = r := ⟨_, rfl⟩
  rw [hm5] at HFN HON ⊢
  rw [hm6] at HFT HOT ⊢
  rw [hdd]
  have HDD := Lib.hid hdd
  clear hm5 hm6 hdd
  obtain ⟨k0, k1, k2, k3, k4, k5⟩ := box6 hj1
  obtain ⟨q0, q1, q2, q3, q4, q5⟩ := boxF hj1
  clear hj1
  have hxA := set6_heap HJ1.out (.int .i64 room) (.slice p1 m1 c1) (.slice p5 m5 c5) (.slice p6 m6 c6) (.bool dd) (.int .i64 fz)
  have gA := grown_set6 w2 X (.int .i64 room) (.slice p1 m1 c1) (.slice p5 m5 c5) (.slice p6 m6 c6) (.bool dd) (.int .i64 fz)
  have hrA := (gA.block (X + 1 + 1) (Array.getElem?_eq_some_iff.1 HJ3.out).1 (by intro e; injection e with e; omega)).trans HJ3.out
  unfold set6 at hxA gA hrA
  have HXA := Lib.hid hxA
  have HGA := Lib.hid gA
  have HRA := Lib.hid hrA
  clear hxA gA hrA
  go_upto_region 24 with fail
  clear k0 k1 k2 k3 k4 k5 q0 q1 q2 q3 q4 q5
  generalize (((((w2.setCell _ _).setCell _ _).setCell _ _).setCell _ _).setCell _ _).setCell _ _ = w9 at *
  obtain ⟨f0, f1, f2, f3, f4, f5⟩ := box6 HXA.out
  obtain ⟨r0, r1, r2, r3, r4, r5⟩ := box6 HRA.out
  obtain ⟨s0, s1, s2, s3, s4, s5⟩ := boxF HRA.out
  go_wp2
  refine bodyPost_ret (ret_D rfl _ _ (X + 1 + 1) _ _ _ _ _ _ _ _ _ rfl rfl (set6_heap HRA.out _ _ _ _ _ _)) rfl ?_
  have gB := grown_set6 w9 (X + 1 + 1) (.int .i64 room) (.slice p1 m1 c1) (.slice p5 m5 c5) (.slice p6 m6 c6) (.bool dd) (.int .i64 fz)
  rw [HLS.out, HDD.out]
  have hend := both_end HB.out HXW.out (by have := HXX.out; omega) HH1.out HT1.out HGR1.out (Array.getElem?_eq_some_iff.1 HK3.out).1 HG2.out HGA.out _ gB (loose6 HJ1.out) (loose6 HRA.out) HFS.out HFN.out HFT.out (.inl (.inl rfl)) (.inl HON.out) HOT.out HREL.out
  exact ⟨S1, _, _, _, T', fz, rfl, hend⟩

set_option maxRecDepth 100000 in
set_option maxHeartbeats 4000000 in
theorem law_step_3 {w0 w : World} {S : Nat → Prop} {B : Nat} {d : DK.D} {T : List RStep} {fuse : Int} {sv nv tv : Value} {N : Nat} (h : Both w0 w S B d T fuse sv nv tv) (hg : DK.Good N d) (hN : N ≤ 30000) (y : ActV) (hy : y.name.size ≤ 20000 ∧ y.to_.size ≤ 20000 ∧ y.s.size ≤ 20000) (hwf : y.Wf) (hk : y.kind = 3) :
    Calls Try.prog 18 #[.pointer (some ⟨B, 0, none⟩), .agg (rdCells d.room sv nv tv d.dead fuse), .agg (actCells y)] w fun e w' => ∃ S' sv' nv' tv' T' fuse', e = .returned (.tuple #[.agg (rdCells (DK.lstep d y).room sv' nv' tv' (DK.lstep d y).dead fuse'), .bool true]) ∧ Both w0 w' S' B (DK.lstep d y) T' fuse' sv' nv' tv' ∧ Turn S w w' ∧ Grew w S S' := by
  have HB := Lib.hid h
  have HGD := Lib.hid hg
  obtain ⟨p1, c1, rfl⟩ := h.fs.slice
  obtain ⟨p2, c2, rfl⟩ := h.fn.slice
  obtain ⟨p3, c3, rfl⟩ := h.st.slice
  rw [DK.lstep_room]
  have hlt := h.held.disk.lt'
  unfold rdCells actCells
  obtain ⟨kd, nm, tt, at', nn, s⟩ := y
  obtain ⟨y1, y2, y3⟩ := hy
  obtain ⟨wf1, wf2⟩ := hwf
  simp only at y1 y2 y3 wf1 wf2 hk ⊢
  obtain ⟨m1, hm1⟩ : ∃ m, d.safe.length = m := ⟨_, rfl⟩
  obtain ⟨m2, hm2⟩ : ∃ m, d.now.length = m := ⟨_, rfl⟩
  obtain ⟨m3, hm3⟩ : ∃ m, T.length = m := ⟨_, rfl⟩
  obtain ⟨room, hroom⟩ : ∃ r, d.room = r := ⟨_, rfl⟩
  obtain ⟨dead, hdead⟩ : ∃ r, d.dead = r := ⟨_, rfl⟩
  have HRO := Lib.hid hroom
  have HDE := Lib.hid hdead
  rw [hm1, hm2, hm3, hroom, hdead]
  rw [hm1, hm2, hm3] at HB
  obtain ⟨g1, g2, g3, hx⟩ := three_alloc w #[.int .i64 room, .slice p1 m1 c1, .slice p2 m2 c2, .slice p3 m3 c3, .bool dead, .int .i64 fuse] #[.int .i64 kd, .string nm, .string tt, .int .i64 at', .int .i64 nn, .string s] #[.int .i64 0, .slice none 0 0, .slice none 0 0, .slice none 0 0, .bool false, .int .i64 0] 44 29 44
  have HX := Lib.hid hx
  have HLT := Lib.hid hlt
  clear hx h hg hm1 hm2 hm3 hroom hdead hlt
  subst hk
  go_enter Try.func18, Try.ntmps18
  go_upto_region 1 with fail
  generalize hW : ((w.alloc _).alloc _).alloc _ = W at *
  generalize hXw : w.heap.size = X at g1 g2 g3 ⊢
  have HXX := Lib.hid hXw
  have HG1 := Lib.hid g1
  have HG2 := Lib.hid g2
  have HG3 := Lib.hid g3
  obtain ⟨a0, a1, a2, a3, a4, a5⟩ := box6 g2
  clear hW hXw g1 g2 g3
  go_upto_region 3 with fail
  have xs := (Ext.refl W).alloc (.cells #[.int .i64 3, .string nm, .string tt, .int .i64 at', .string s] 75)
  have HK1 := Lib.hid ((xs.block (Array.getElem?_eq_some_iff.1 HG1.out).1).trans HG1.out)
  have HK2 := Lib.hid ((xs.block (Array.getElem?_eq_some_iff.1 HG2.out).1).trans HG2.out)
  have HK3 := Lib.hid ((xs.block (Array.getElem?_eq_some_iff.1 HG3.out).1).trans HG3.out)
  have HK4 := Lib.hid (heap_alloc_new W (.cells #[.int .i64 3, .string nm, .string tt, .int .i64 at', .string s] 75))
  have HXW := Lib.hid (HX.out.trans xs)
  have hHn : ¬ S W.heap.size := fun hS => by have := HLT.out _ hS; have := HX.out.size; omega
  have hXn : ∀ k, X ≤ k → ¬ S k := fun k hk hS => by have := HLT.out _ hS; have := HXX.out; omega
  have HHN := Lib.hid hHn
  have HXN := Lib.hid hXn
  clear a0 a1 a2 a3 a4 a5 xs hHn hXn
  generalize W.alloc (.cells #[.int .i64 3, .string nm, .string tt, .int .i64 at', .string s] 75) = W2 at *
  generalize W.heap.size = H at *
  clear HG1 HG2 HG3 HX
  have HH2 := Lib.hid (HB.out.held.more HXW.out)
  obtain ⟨a0, a1, a2, a3, a4, a5⟩ := box6 HK2.out
  obtain ⟨D', E, hDE⟩ : ∃ D' E, DK.drop d nm = (D', E) := ⟨_, _, rfl⟩
  have HLS : Hid (DK.lstep d ⟨3, nm, tt, at', nn, s⟩ = D') := Lib.hid (by
    unfold DK.lstep
    rw [if_pos ⟨by simp, by simp⟩]
    show (DK.drop d nm).1 = D'
    rw [hDE])
  have HAC : Hid (DK.did d (DK.rmay d ⟨3, nm, tt, at', s⟩) (RStep.st ⟨3, nm, tt, at', s⟩) = (D', E)) := Lib.hid (by
    rw [← DK.act_rmay d ⟨3, nm, tt, at', s⟩ ⟨by simp, by simp⟩, ← hDE]
    rfl)
  have HC := Lib.hid (disk_drop HH2.out.disk HGD.out nm (by omega))
  rw [hDE] at HC
  have HSAFE : Hid (D'.room = room ∧ D'.safe = d.safe) := Lib.hid (by
    have h := DK.did_room d (DK.rmay d ⟨3, nm, tt, at', s⟩) (RStep.st ⟨3, nm, tt, at', s⟩)
    rw [HAC.out, HRO.out] at h
    exact h)
  clear hDE
  go_wp2_with fail
  refine HC.out.mono ?_
  rintro e w1 ⟨rfl, hl⟩
  obtain ⟨S1, h1, ht1, hg1⟩ := HH2.out.next hl
  have HH1 := Lib.hid h1
  have HT1 := Lib.hid ht1
  have HGR1 := Lib.hid hg1
  have HI1 := Lib.hid ((ht1.block X (Array.getElem?_eq_some_iff.1 HK1.out).1 (HXN.out X (Nat.le_refl _))).trans HK1.out)
  have HI3 := Lib.hid ((ht1.block (X + 1 + 1) (Array.getElem?_eq_some_iff.1 HK3.out).1 (HXN.out _ (by omega))).trans HK3.out)
  have HI4 := Lib.hid ((ht1.block H (Array.getElem?_eq_some_iff.1 HK4.out).1 HHN.out).trans HK4.out)
  have fn1 := (HB.out.fn.ext HXW.out).turn ht1 HB.out.on
  have fs1 := (HB.out.fs.ext HXW.out).turn ht1 HB.out.os
  have ft1 := (HB.out.st.ext HXW.out).turn ht1 HB.out.ot
  have hdo := ref_step fn1 ft1 fs1 HB.out.rel HGD.out (by omega) ⟨3, nm, tt, at', s⟩ ⟨y1, y2, y3⟩ ⟨by simp, by simp⟩
  unfold rdCells rsCells at hdo
  simp only at hdo
  rw [HRO.out, HDE.out, HAC.out] at hdo
  simp only at hdo
  have HDO := Lib.hid hdo
  have HFS1 := Lib.hid fs1
  obtain ⟨k0, k1, k2, k3, k4, k5⟩ := box6 HI1.out
  obtain ⟨q0, q1, q2, q3, q4, q5⟩ := boxF HI1.out
  obtain ⟨e0, e1, e2, e3, e4⟩ := box5 HI4.out
  clear a0 a1 a2 a3 a4 a5 hl h1 ht1 hg1 fn1 fs1 ft1 hdo
  go_wp2_with fail
  refine HDO.out.mono ?_
  rintro e w2 ⟨nv', tv', T', fz, rfl, hfn, hft, hre, hx2, hon, hot⟩
  have HFN := Lib.hid hfn
  have HFT := Lib.hid hft
  have HREL := Lib.hid hre
  have HG2 := Lib.hid hx2
  have HON := Lib.hid hon
  have HOT := Lib.hid hot
  have HFS : Hid (FsV w2 (.slice p1 m1 c1) D'.safe) := Lib.hid (by rw [HSAFE.out.2]; exact HFS1.out.ext hx2)
  have hj1 := (hx2.block (Array.getElem?_eq_some_iff.1 HI1.out).1).trans HI1.out
  have HJ1 := Lib.hid hj1
  have HJ3 := Lib.hid ((hx2.block (Array.getElem?_eq_some_iff.1 HI3.out).1).trans HI3.out)
  obtain ⟨p5, c5, rfl⟩ := hfn.slice
  obtain ⟨p6, c6, rfl⟩ := hft.slice
  clear k0 k1 k2 k3 k4 k5 q0 q1 q2 q3 q4 q5 e0 e1 e2 e3 e4 hfn hft hre hx2 hon hot
  obtain ⟨m5, hm5⟩ : ∃ m, D'.now.length = m := ⟨_, rfl⟩
  obtain ⟨m6, hm6⟩ : ∃ m, T'.length = m := ⟨_, rfl⟩
  obtain ⟨dd, hdd⟩ : ∃ r, D'.dead = r := ⟨_, rfl⟩
  rw [hm5] at HFN HON ⊢
  rw [hm6] at HFT HOT ⊢
  rw [hdd]
  have HDD := Lib.hid hdd
  clear hm5 hm6 hdd
  obtain ⟨k0, k1, k2, k3, k4, k5⟩ := box6 hj1
  obtain ⟨q0, q1, q2, q3, q4, q5⟩ := boxF hj1
  clear hj1
  have hxA := set6_heap HJ1.out (.int .i64 room) (.slice p1 m1 c1) (.slice p5 m5 c5) (.slice p6 m6 c6) (.bool dd) (.int .i64 fz)
  have gA := grown_set6 w2 X (.int .i64 room) (.slice p1 m1 c1) (.slice p5 m5 c5) (.slice p6 m6 c6) (.bool dd) (.int .i64 fz)
  have hrA := (gA.block (X + 1 + 1) (Array.getElem?_eq_some_iff.1 HJ3.out).1 (by intro e; injection e with e; omega)).trans HJ3.out
  unfold set6 at hxA gA hrA
  have HXA := Lib.hid hxA
  have HGA := Lib.hid gA
  have HRA := Lib.hid hrA
  clear hxA gA hrA
  go_upto_region 24 with fail
  clear k0 k1 k2 k3 k4 k5 q0 q1 q2 q3 q4 q5
  generalize (((((w2.setCell _ _).setCell _ _).setCell _ _).setCell _ _).setCell _ _).setCell _ _ = w9 at *
  obtain ⟨f0, f1, f2, f3, f4, f5⟩ := box6 HXA.out
  obtain ⟨r0, r1, r2, r3, r4, r5⟩ := box6 HRA.out
  obtain ⟨s0, s1, s2, s3, s4, s5⟩ := boxF HRA.out
  go_wp2
  refine bodyPost_ret (ret_D rfl _ _ (X + 1 + 1) _ _ _ _ _ _ _ _ _ rfl rfl (set6_heap HRA.out _ _ _ _ _ _)) rfl ?_
  have gB := grown_set6 w9 (X + 1 + 1) (.int .i64 room) (.slice p1 m1 c1) (.slice p5 m5 c5) (.slice p6 m6 c6) (.bool dd) (.int .i64 fz)
  rw [HLS.out, HDD.out]
  have hend := both_end HB.out HXW.out (by have := HXX.out; omega) HH1.out HT1.out HGR1.out (Array.getElem?_eq_some_iff.1 HK3.out).1 HG2.out HGA.out _ gB (loose6 HJ1.out) (loose6 HRA.out) HFS.out HFN.out HFT.out (.inl (.inl rfl)) (.inl HON.out) HOT.out HREL.out
  exact ⟨S1, _, _, _, T', fz, rfl, hend⟩
end Go.Proofs.Ytfegfbhchdfibaa
