/- The walk of DiskPlays. -/
import Derived.Test.YtfegfbhchdfibaaLawSame
import Derived.Test.YtfegfbhchdfibaaDiskAwake
namespace Go.Proofs.Ytfegfbhchdfibaa
open Go.RowKit

set_option maxRecDepth 100000 in
theorem disk_none (n : Int) (h : n < 0 ∨ 32768 < n) (w : World) : Calls Try.prog 9 #[.int .i64 n] w fun e w' => e = .returned (.pointer none) ∧ w = w' := by
  by_cases h0 : n < 0
  · have h2 : decide (n < 0) = true := decide_eq_true h0
    go_enter Try.func9, Try.ntmps9
    go_wp2
    go_ret
    exact ⟨rfl, rfl⟩
  · have h2 : decide (n < 0) = false := decide_eq_false h0
    have h3 : decide (32768 < n) = true := decide_eq_true (by omega)
    go_enter Try.func9, Try.ntmps9
    go_wp2
    go_ret
    exact ⟨rfl, rfl⟩

theorem Both.more {w0 w w' : World} {S : Nat → Prop} {B : Nat} {d : DK.D} {T : List RStep} {fuse : Int} {sv nv tv : Value} (h : Both w0 w S B d T fuse sv nv tv) (he : Ext w w') : Both w0 w' S B d T fuse sv nv tv :=
  ⟨h.held.more he, h.fs.ext he, h.fn.ext he, h.st.ext he, h.os, h.on, h.ot, h.rel⟩
/-- No cell of a block is a text. -/
def Bare (w : World) (X : Nat) : Prop := ∀ j x, w.cell? ⟨X, j, none⟩ ≠ some (.string x)
theorem bare6 {w : World} {X : Nat} {t : TypeId} {room fuse : Int} {dead : Bool} {n1 n2 n3 c1 c2 c3 : Nat} {p1 p2 p3 : Option Addr} (h : w.heap[X]? = some (.cells #[.int .i64 room, .slice p1 n1 c1, .slice p2 n2 c2, .slice p3 n3 c3, .bool dead, .int .i64 fuse] t (0, 0))) : Bare w X := by
  intro j x e
  rw [(cell_row h).1] at e
  match j, e with
  | 0, e => simp at e
  | 1, e => simp at e
  | 2, e => simp at e
  | 3, e => simp at e
  | 4, e => simp at e
  | 5, e => simp at e
  | j + 6, e => simp at e
theorem FsV.bare {w : World} {X : Nat} {v : Value} {l : DK.Files} (h : FsV w v l) (hX : Bare w X) : Off (fun k => k = X) v l.length := by
  obtain ⟨p, c, h1, h2, h3⟩ := h
  rcases h3 with h3 | ⟨b, o, hp, hs⟩
  · exact .inl h3
  · by_cases h0 : l.length = 0
    · exact .inl h0
    · refine .inr fun b' hb' hk => ?_
      obtain rfl : b = b' := by rw [h1, hp] at hb'; simpa [Value.ownBlock] using hb'
      subst hk
      exact hX _ _ (hs 0 (by omega)).1
theorem StsV.bare {w : World} {X : Nat} {v : Value} {l : List RStep} (h : StsV w v l) (hX : Bare w X) : Off (fun k => k = X) v l.length := by
  obtain ⟨p, c, h1, h2, h3⟩ := h
  rcases h3 with h3 | ⟨b, o, hp, hs⟩
  · exact .inl h3
  · by_cases h0 : l.length = 0
    · exact .inl h0
    · refine .inr fun b' hb' hk => ?_
      obtain rfl : b = b' := by rw [h1, hp] at hb'; simpa [Value.ownBlock] using hb'
      subst hk
      exact hX _ _ (hs 0 (by omega) 1 _ rfl)
theorem Both.past {w0 w w' : World} {S : Nat → Prop} {B X : Nat} {d : DK.D} {T : List RStep} {fuse : Int} {sv nv tv : Value} (h : Both w0 w S B d T fuse sv nv tv) (hg : w.grownBy w' (some X)) (hl : Loose w.heap[X]?) (hn : ¬ S X) (hX : w0.heap.size ≤ X) (hb : Bare w X) : Both w0 w' S B d T fuse sv nv tv := by
  have ht : Turn (fun k => k = X) w w' := (Turn.refl _ w).grown hg (.inl rfl)
  exact ⟨⟨h.held.disk.past hg hl hn, h.held.ext.grown hg (fun k e => by injection e with e; omega), h.held.new⟩, h.fs.turn ht (h.fs.bare hb), h.fn.turn ht (h.fn.bare hb), h.st.turn ht (h.st.bare hb), h.os, h.on, h.ot, h.rel⟩

set_option maxRecDepth 100000 in
set_option maxHeartbeats 4000000 in
theorem diskPlays_walk (blocks : Int) (p : Option Addr) (n c : Nat) (L : List ActV) (w : World) (hx : ActsW w p n L) (hn : n ≤ maxLen) (hz : ∀ y ∈ L, y.Sized) (hwf : ∀ y ∈ L, y.Wf) :
    Calls Try.prog 6 #[.int .i64 blocks, .slice p n c] w fun e w' => e = .returned (.bool true) ∧ Ext w w' := by
  have HGR := Lib.hid (great_acts p n c L w hx hn hz)
  obtain ⟨y1, y4⟩ := hx
  have HX : Hid (n = 0 ∨ ∃ b off, p = some ⟨b, off, none⟩ ∧ ActsAt w b off L) := y4
  have HLN := Lib.hid y1
  have HWF := Lib.hid hwf
  unfold maxLen at hn
  clear y1 y4 hz hwf
  go_enter Try.func6, Try.ntmps6
  go_wp2_with fail
  refine HGR.out.mono ?_
  rintro e w1 ⟨r, rfl, h1, hsm⟩
  cases r with
  | true =>
    go_wp2_with fail
    refine (disk_awake _).mono ?_
    rintro e w2 ⟨rfl, h2⟩
    go_wp2
    go_ret
    exact ⟨rfl, h1.trans h2⟩
  | false =>
    have HS := Lib.hid (hsm rfl)
    have H1 := Lib.hid h1
    clear hsm h1
    by_cases hbl : blocks < 0 ∨ 32768 < blocks
    · have HN := Lib.hid (disk_none blocks hbl w1)
      by_cases hb0 : blocks < 0
      · have t0 : decide (blocks < 0) = true := decide_eq_true hb0
        clear hbl hb0
        go_wp2_with fail
        refine HN.out.mono ?_
        rintro e w2 ⟨rfl, rfl⟩
        go_wp2_with fail
        refine (disk_awake _).mono ?_
        rintro e w2 ⟨rfl, h2⟩
        go_wp2
        go_ret
        exact ⟨rfl, H1.out.trans h2⟩
      · have t0 : decide (blocks < 0) = false := decide_eq_false hb0
        have t1 : decide (32768 < blocks) = true := decide_eq_true (by omega)
        clear hbl hb0
        go_wp2_with fail
        refine HN.out.mono ?_
        rintro e w2 ⟨rfl, rfl⟩
        go_wp2_with fail
        refine (disk_awake _).mono ?_
        rintro e w2 ⟨rfl, h2⟩
        go_wp2
        go_ret
        exact ⟨rfl, H1.out.trans h2⟩
    · have t0 : decide (blocks < 0) = false := decide_eq_false (by omega)
      have t1 : decide (32768 < blocks) = false := decide_eq_false (by omega)
      have hn60 : n ≤ 60 := by have := HS.out.1; have := HLN.out; omega
      have HN := Lib.hid (disk_new blocks (by omega) (by omega) w1)
      have hbr : 0 ≤ blocks ∧ blocks ≤ 32768 := by omega
      have HBR := Lib.hid hbr
      clear hn hbl hbr
      go_wp2_with fail
      refine HN.out.mono ?_
      rintro e w2 ⟨B, S0, rfl, hD, hx2, hS⟩
      have H2 : Hid (Held w1 w2 S0 B (DK.new blocks)) := Lib.hid ⟨hD, hx2, hS⟩
      have HSL := Lib.hid hD.lt'
      clear hD hx2 hS HN
      go_upto_region 9 with fail
      have gM := heap_alloc_new w2 (.cells #[.int .i64 blocks, .slice none 0 0, .slice none 0 0, .slice none 0 0, .bool false, .int .i64 (-1)] 44)
      have HGM := Lib.hid gM
      have hxm := (Ext.refl w2).alloc (.cells #[.int .i64 blocks, .slice none 0 0, .slice none 0 0, .slice none 0 0, .bool false, .int .i64 (-1)] 44)
      have HXM := Lib.hid hxm
      clear gM hxm
      have hnm : ¬ S0 w2.heap.size ∧ w1.heap.size ≤ w2.heap.size := ⟨fun h => Nat.lt_irrefl _ (HSL.out _ h), H2.out.ext.size⟩
      have HNM := Lib.hid hnm
      have hB0 := (⟨H2.out.more HXM.out, FsV.nil _, FsV.nil _, StsV.nil _, .inl rfl, .inl rfl, .inl rfl, ⟨rfl, (fun y hy => by cases hy), by omega, fun _ => rfl⟩⟩ : Both w1 _ S0 B (DK.new blocks) [] (-1) (.slice none 0 0) (.slice none 0 0) (.slice none 0 0))
      have HB0 := Lib.hid hB0
      clear hnm hB0
      generalize w2.alloc _ = W at *
      generalize w2.heap.size = M at *
      clear H2 HSL HXM
      go_wp2
      go_loopw [7, 8, 9] (fun iv _ _ W' => ∃ (i : Nat) (S : Nat → Prop) (d : DK.D) (T : List RStep) (fuse : Int) (n1 c1 n2 c2 n3 c3 : Nat) (q1 q2 q3 : Option Addr), i ≤ n ∧ iv = .int .i64 i ∧ Hid (Both w1 W' S B d T fuse (.slice q1 n1 c1) (.slice q2 n2 c2) (.slice q3 n3 c3)) ∧ Hid (W'.heap[M]? = some (.cells #[.int .i64 d.room, .slice q1 n1 c1, .slice q2 n2 c2, .slice q3 n3 c3, .bool d.dead, .int .i64 fuse] 44 (0, 0))) ∧ Hid (¬ S M ∧ w1.heap.size ≤ M) ∧ Hid (DK.Good (2 * i + load L i) d)) (fun iv _ _ _ => n - (intOf iv).toNat)
      case atStart => exact ⟨0, S0, _, [], -1, 0, 0, 0, 0, 0, 0, none, none, none, by omega, rfl, HB0, HGM, HNM, Lib.hid (DK.new_good _ HBR.out)⟩
      case round =>
        clear HB0 HGM HNM t0 t1
        obtain ⟨i, S, d, T, fuse, n1, c1, n2, c2, n3, c3, q1, q2, q3, hi, rfl, HBO, HM, HNS, HGD⟩ := hrel
        by_cases hlt : i < n
        · have hil : i < L.length := by rw [HLN.out]; exact hlt
          obtain ⟨b, off, rfl, hs⟩ : ∃ b off, p = some ⟨b, off, none⟩ ∧ ActsAt w b off L := by
            rcases HX.out with h | h
            · omega
            · exact h
          have hxw := H1.out.trans HBO.out.held.ext
          obtain ⟨z0, z1, z2, z3, z4, z5⟩ := (hs.ext hxw).cs hil
          have hbw := lt_of_cell (hs.cs hil).1
          have hld := load_next L i hil
          have hl1 := load_le L (i + 1) (by omega)
          have hl2 := HS.out.2
          have hyw := HWF.out L[i] (List.getElem_mem hil)
          generalize L[i] = y at *
          rw [hld] at hl1
          have hys : y.name.size ≤ 20000 ∧ y.to_.size ≤ 20000 ∧ y.s.size ≤ 20000 := by omega
          have hgl := HGD.out.lstep y hys (by have := hyw.1.2; omega)
          have hst := fun (W' : World) (he : Ext wr W') => law_step (HBO.out.more he) HGD.out (by omega) y hys hyw
          have hsb : ¬ S b := fun h => by
            have h1 := HBO.out.held.new b h
            have h2 := H1.out.size
            simp only at hbw
            omega
          obtain ⟨d5, hd5⟩ : ∃ d5, DK.lstep d y = d5 := ⟨_, rfl⟩
          rw [hd5] at hst hgl
          have HG5 : Hid (DK.Good (2 * (i + 1) + load L (i + 1)) d5) := Lib.hid (hgl.mono (by rw [hld]; omega))
          have HLE : Hid (2 * (i + 1) + load L (i + 1) ≤ 30000) := Lib.hid (by rw [hld]; omega)
          obtain ⟨kd, nm, tt, at', nn, s⟩ := y
          simp only at z0 z1 z2 z3 z4 z5
          unfold rdCells actCells at hst
          simp only at hst
          have HST := Lib.hid (fun (W5 : World) (he : Ext wr W5) => (hst W5 he).mono fun e w5 h => And.intro he h)
          have HSTB := Lib.hid (fun (W5 : World) (he : Ext (wr.alloc (.cells #[.int .i64 0, .slice none 0 0, .slice none 0 0, .slice none 0 0, .bool false, .int .i64 0] 44)) W5) => (hst W5 (((Ext.refl wr).alloc _).trans he)).mono fun e w5 h => And.intro he (And.intro (((Ext.refl wr).alloc (.cells #[.int .i64 0, .slice none 0 0, .slice none 0 0, .slice none 0 0, .bool false, .int .i64 0] 44)).trans he) h))
          have HSB := Lib.hid hsb
          obtain ⟨a0, a1, a2, a3, a4, a5⟩ := box6 HM.out
          have i1 : (0 : Int) ≤ (i : Int) := by omega
          have i2 : (i : Int) < (n : Int) := by omega
          have hHM : M < wr.heap.size := (Array.getElem?_eq_some_iff.1 HM.out).1
          have hHb : b < wr.heap.size := lt_of_cell z0
          have HLT := Lib.hid (And.intro hHM hHb)
          obtain ⟨rm, hrm⟩ : ∃ r, d.room = r := ⟨_, rfl⟩
          obtain ⟨dd, hdd⟩ : ∃ r, d.dead = r := ⟨_, rfl⟩
          rw [hrm] at HST HSTB a0 HM
          rw [hdd] at HST HSTB a4 HM
          have Z := Lib.hid (And.intro z0 (And.intro z1 (And.intro z2 (And.intro z3 (And.intro z4 z5)))))
          clear hs hxw hbw hld hl1 hl2 hyw hys hgl hst hsb hd5 hrm hdd hHM hHb
          go_wp2
          have ne1 : M ≠ wr.heap.size := fun e => by have := HLT.out.1; omega
          have ne2 : wr.heap.size ≠ M := fun e => ne1 e.symm
          have ne3 : b ≠ wr.heap.size := fun e => by have := HLT.out.2; omega
          have ne4 : wr.heap.size ≠ b := fun e => ne3 e.symm
          refine wp_region_noPanic ?_
          go_region_held3 (fun w' => w'.cell? ⟨M, 0, none⟩ = some (.int .i64 rm) ∧ w'.cell? ⟨M, 1, none⟩ = some (.slice q1 n1 c1) ∧ w'.cell? ⟨M, 2, none⟩ = some (.slice q2 n2 c2) ∧ w'.cell? ⟨M, 3, none⟩ = some (.slice q3 n3 c3) ∧ w'.cell? ⟨M, 4, none⟩ = some (.bool dd) ∧ w'.cell? ⟨M, 5, none⟩ = some (.int .i64 fuse) ∧ w'.cell? ⟨b, off + i * 6, none⟩ = some (.int .i64 kd) ∧ w'.cell? ⟨b, off + i * 6 + 1, none⟩ = some (.string nm) ∧ w'.cell? ⟨b, off + i * 6 + 2, none⟩ = some (.string tt) ∧ w'.cell? ⟨b, off + i * 6 + 3, none⟩ = some (.int .i64 at') ∧ w'.cell? ⟨b, off + i * 6 + 4, none⟩ = some (.int .i64 nn) ∧ w'.cell? ⟨b, off + i * 6 + 5, none⟩ = some (.string s)) (first | go_keep | exact ⟨a0, a1, a2, a3, a4, a5, z0, z1, z2, z3, z4, z5⟩) (first
            | (go_at_call 18; refine (HSTB.out _ (by first | exact Ext.refl _ | exact (Ext.refl _).drew)).mono ?_; clear z0 z1 z2 z3 z4 z5 a0 a1 a2 a3 a4 a5; rintro e w5 ⟨hxb, hxc, S5, sv5, nv5, tv5, T5, f5, rfl, hb5, ht5, hg5⟩; have HB5 := Lib.hid hb5; obtain ⟨p1, e1, rfl⟩ := hb5.fs.slice; obtain ⟨p2, e2, rfl⟩ := hb5.fn.slice; obtain ⟨p3, e3, rfl⟩ := hb5.st.slice; have HM5 := Lib.hid (((ht5.block M (Nat.lt_of_lt_of_le HLT.out.1 (Ext.size hxc)) HNS.out.1).trans (hxc.block HLT.out.1)).trans HM.out); have HNM5 : Hid (¬ S5 M) := Lib.hid (fun h => by rcases hg5 M h with h | h; (· exact HNS.out.1 h); (· have h1 := Ext.size hxc; have h2 := HLT.out.1; omega)); have HS5 := Lib.hid (hxc.size); have HG5' := Lib.hid hg5; obtain ⟨a0, a1, a2, a3, a4, a5⟩ := box6 HM5.out; have z0 := ht5.cell (a := ⟨b, off + i * 6, none⟩) HSB.out (hxc.cell Z.out.1); have z1 := ht5.cell (a := ⟨b, off + i * 6 + 1, none⟩) HSB.out (hxc.cell Z.out.2.1); have z2 := ht5.cell (a := ⟨b, off + i * 6 + 2, none⟩) HSB.out (hxc.cell Z.out.2.2.1); have z3 := ht5.cell (a := ⟨b, off + i * 6 + 3, none⟩) HSB.out (hxc.cell Z.out.2.2.2.1); have z4 := ht5.cell (a := ⟨b, off + i * 6 + 4, none⟩) HSB.out (hxc.cell Z.out.2.2.2.2.1); have z5 := ht5.cell (a := ⟨b, off + i * 6 + 5, none⟩) HSB.out (hxc.cell Z.out.2.2.2.2.2); have HXB := Lib.hid ((ht5.block wr.heap.size (by have h1 := hxb.size; rw [World.size_alloc] at h1; omega) (fun h => Nat.lt_irrefl _ (HBO.out.held.disk.lt' _ h))).trans ((hxb.block (by rw [World.size_alloc]; omega)).trans (show (wr.alloc (.cells #[.int .i64 0, .slice none 0 0, .slice none 0 0, .slice none 0 0, .bool false, .int .i64 0] 44)).heap[wr.heap.size]? = some (.cells #[.int .i64 0, .slice none 0 0, .slice none 0 0, .slice none 0 0, .bool false, .int .i64 0] 44) from heap_alloc_new wr _))); have HNX : Hid (¬ S5 wr.heap.size) := Lib.hid (fun h => by rcases hg5 _ h with h | h; (· exact Nat.lt_irrefl _ (HBO.out.held.disk.lt' _ h)); (· have h1 := hxb.size; rw [World.size_alloc] at h1; omega)); obtain ⟨b0, b1, b2, b3, b4, b5⟩ := box6 HXB.out; obtain ⟨s0, s1, s2, s3, s4, s5⟩ := boxF HXB.out; clear hb5 ht5 hg5 hxc hxb)
            | (go_at_call 18; refine (HST.out _ (by first | exact Ext.refl _ | exact (Ext.refl _).drew)).mono ?_; clear z0 z1 z2 z3 z4 z5 a0 a1 a2 a3 a4 a5; rintro e w5 ⟨hxc, S5, sv5, nv5, tv5, T5, f5, rfl, hb5, ht5, hg5⟩; have HB5 := Lib.hid hb5; obtain ⟨p1, e1, rfl⟩ := hb5.fs.slice; obtain ⟨p2, e2, rfl⟩ := hb5.fn.slice; obtain ⟨p3, e3, rfl⟩ := hb5.st.slice; have HM5 := Lib.hid (((ht5.block M (Nat.lt_of_lt_of_le HLT.out.1 (Ext.size hxc)) HNS.out.1).trans (hxc.block HLT.out.1)).trans HM.out); have HNM5 : Hid (¬ S5 M) := Lib.hid (fun h => by rcases hg5 M h with h | h; (· exact HNS.out.1 h); (· have h1 := Ext.size hxc; have h2 := HLT.out.1; omega)); have HS5 := Lib.hid (hxc.size); have HG5' := Lib.hid hg5; obtain ⟨a0, a1, a2, a3, a4, a5⟩ := box6 HM5.out; have z0 := ht5.cell (a := ⟨b, off + i * 6, none⟩) HSB.out (hxc.cell Z.out.1); have z1 := ht5.cell (a := ⟨b, off + i * 6 + 1, none⟩) HSB.out (hxc.cell Z.out.2.1); have z2 := ht5.cell (a := ⟨b, off + i * 6 + 2, none⟩) HSB.out (hxc.cell Z.out.2.2.1); have z3 := ht5.cell (a := ⟨b, off + i * 6 + 3, none⟩) HSB.out (hxc.cell Z.out.2.2.2.1); have z4 := ht5.cell (a := ⟨b, off + i * 6 + 4, none⟩) HSB.out (hxc.cell Z.out.2.2.2.2.1); have z5 := ht5.cell (a := ⟨b, off + i * 6 + 5, none⟩) HSB.out (hxc.cell Z.out.2.2.2.2.2); clear hb5 ht5 hg5 hxc))
          · refine NoPanic.normal ?_
            have hxb := heap_alloc_new w5 (.cells #[.int .i64 d5.room, .slice p1 d5.safe.length e1, .slice p2 d5.now.length e2, .slice p3 T5.length e3, .bool d5.dead, .int .i64 f5] 44)
            have hx9 := (Ext.refl w5).alloc (.cells #[.int .i64 d5.room, .slice p1 d5.safe.length e1, .slice p2 d5.now.length e2, .slice p3 T5.length e3, .bool d5.dead, .int .i64 f5] 44)
            have HXB9 := Lib.hid hxb
            have HM9 := Lib.hid ((hx9.block (Array.getElem?_eq_some_iff.1 HM5.out).1).trans HM5.out)
            have HB9 := Lib.hid (HB5.out.more hx9)
            clear hxb hx9
            generalize w5.alloc _ = W9 at *
            generalize w5.heap.size = xb at *
            clear a0 a1 a2 a3 a4 a5 z0 z1 z2 z3 z4 z5 ne1 ne2 ne3 ne4 i1 i2
            obtain ⟨b0, b1, b2, b3, b4, b5⟩ := box6 HXB9.out
            have hsame := law_same HB9.out HG5.out HLE.out
            unfold rdCells at hsame
            have HSAME := Lib.hid hsame
            clear hsame
            go_wp2_with fail
            refine HSAME.out.mono ?_
            rintro e w10 ⟨rfl, g10⟩
            have HXB10 := Lib.hid ((g10.block (Array.getElem?_eq_some_iff.1 HXB9.out).1).trans HXB9.out)
            have HM10 := Lib.hid ((g10.block (Array.getElem?_eq_some_iff.1 HM9.out).1).trans HM9.out)
            have HB10 := Lib.hid (HB9.out.more g10)
            clear b0 b1 b2 b3 b4 b5 g10
            obtain ⟨b0, b1, b2, b3, b4, b5⟩ := box6 HXB10.out
            obtain ⟨a0, a1, a2, a3, a4, a5⟩ := box6 HM10.out
            obtain ⟨r0, r1, r2, r3, r4, r5⟩ := boxF HM10.out
            go_wp2
            go_roundw
            case rel => exact ⟨i + 1, S5, d5, T5, f5, _, e1, _, e2, _, e3, p1, p2, p3, by omega, by go_num, Lib.hid (HB10.out.past (grown_set6 w10 M (.int .i64 d5.room) (.slice p1 d5.safe.length e1) (.slice p2 d5.now.length e2) (.slice p3 T5.length e3) (.bool d5.dead) (.int .i64 f5)) (loose6 HM10.out) HNM5.out HNS.out.2 (bare6 HM10.out)), Lib.hid (set6_heap HM10.out _ _ _ _ _ _), Lib.hid ⟨HNM5.out, HNS.out.2⟩, HG5⟩
            case measure => simp [intOf]; omega
          · refine NoPanic.normal ?_
            have hxb := set6_heap HXB.out (.int .i64 d5.room) (.slice p1 d5.safe.length e1) (.slice p2 d5.now.length e2) (.slice p3 T5.length e3) (.bool d5.dead) (.int .i64 f5)
            have gx := grown_set6 w5 wr.heap.size (.int .i64 d5.room) (.slice p1 d5.safe.length e1) (.slice p2 d5.now.length e2) (.slice p3 T5.length e3) (.bool d5.dead) (.int .i64 f5)
            have HXB9 := Lib.hid hxb
            have HM9 := Lib.hid ((gx.block M (Array.getElem?_eq_some_iff.1 HM5.out).1 (by intro e; injection e with e; exact ne1 e)).trans HM5.out)
            have HB9 := Lib.hid (HB5.out.past gx (loose6 HXB.out) HNX.out HBO.out.held.ext.size (bare6 HXB.out))
            clear hxb gx b0 b1 b2 b3 b4 b5 s0 s1 s2 s3 s4 s5
            unfold set6 at HXB9 HM9 HB9
            generalize (((((w5.setCell _ _).setCell _ _).setCell _ _).setCell _ _).setCell _ _).setCell _ _ = W9 at *
            generalize wr.heap.size = xb at *
            clear a0 a1 a2 a3 a4 a5 z0 z1 z2 z3 z4 z5 ne1 ne2 ne3 ne4 i1 i2
            obtain ⟨b0, b1, b2, b3, b4, b5⟩ := box6 HXB9.out
            have hsame := law_same HB9.out HG5.out HLE.out
            unfold rdCells at hsame
            have HSAME := Lib.hid hsame
            clear hsame
            go_wp2_with fail
            refine HSAME.out.mono ?_
            rintro e w10 ⟨rfl, g10⟩
            have HXB10 := Lib.hid ((g10.block (Array.getElem?_eq_some_iff.1 HXB9.out).1).trans HXB9.out)
            have HM10 := Lib.hid ((g10.block (Array.getElem?_eq_some_iff.1 HM9.out).1).trans HM9.out)
            have HB10 := Lib.hid (HB9.out.more g10)
            clear b0 b1 b2 b3 b4 b5 g10
            obtain ⟨b0, b1, b2, b3, b4, b5⟩ := box6 HXB10.out
            obtain ⟨a0, a1, a2, a3, a4, a5⟩ := box6 HM10.out
            obtain ⟨r0, r1, r2, r3, r4, r5⟩ := boxF HM10.out
            go_wp2
            go_roundw
            case rel => exact ⟨i + 1, S5, d5, T5, f5, _, e1, _, e2, _, e3, p1, p2, p3, by omega, by go_num, Lib.hid (HB10.out.past (grown_set6 w10 M (.int .i64 d5.room) (.slice p1 d5.safe.length e1) (.slice p2 d5.now.length e2) (.slice p3 T5.length e3) (.bool d5.dead) (.int .i64 f5)) (loose6 HM10.out) HNM5.out HNS.out.2 (bare6 HM10.out)), Lib.hid (set6_heap HM10.out _ _ _ _ _ _), Lib.hid ⟨HNM5.out, HNS.out.2⟩, HG5⟩
            case measure => simp [intOf]; omega
        · obtain rfl : i = n := by omega
          go_wp2_with fail
          refine (disk_awake _).mono ?_
          rintro e w2 ⟨rfl, h2⟩
          go_wp2
          go_ret
          exact ⟨rfl, (H1.out.trans HBO.out.held.ext).trans h2⟩
end Go.Proofs.Ytfegfbhchdfibaa
