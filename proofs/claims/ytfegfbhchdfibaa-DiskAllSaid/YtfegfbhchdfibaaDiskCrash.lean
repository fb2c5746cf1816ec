/- The fuse, how many blocks are used and free; what a crash leaves. -/
import Derived.Test.YtfegfbhchdfibaaDiskSync
import Derived.Laws.EntriesVeiled
namespace Go.Proofs.Ytfegfbhchdfibaa
open Go.RowKit

theorem DCells.setF {w : World} {B : Nat} {d : DK.D} {bs bn : Nat} {v : Value} (h : DCells w B d bs bn v) (k : Int) : DCells ((w.setCell ⟨B, 5, none⟩ (.bool (decide (0 ≤ k)))).setCell ⟨B, 6, none⟩ (.int .i64 k)) B (DK.setFuse d k) bs bn v := by
  unfold DCells World.setCell at *
  rw [Array.getElem?_modify, if_pos rfl, Array.getElem?_modify, if_pos rfl, h]
  rfl

set_option maxRecDepth 100000 in
theorem fuse_nil (k : Int) (w : World) : Calls Try.prog 20 #[.pointer none, .int .i64 k] w fun e w' => e = .returned (.tuple #[]) ∧ w = w' := by
  go_enter Try.func20, Try.ntmps20
  go_wp2
  go_end0
  exact ⟨rfl, rfl⟩

set_option maxRecDepth 100000 in
theorem disk_fuse {w : World} {S : Nat → Prop} {B : Nat} {d : DK.D} (h : DiskAt w S B d) (k : Int) :
    Calls Try.prog 20 #[.pointer (some ⟨B, 0, none⟩), .int .i64 k] w fun e w' => e = .returned (.tuple #[]) ∧ Left w S B (DK.setFuse d k) w' := by
  obtain ⟨bs, bn, v, hi⟩ := h
  have HI := Lib.hid hi
  have c5 := hi.cells.c5
  have c6 := hi.cells.c6
  have f5 := hi.cells.fr 5
  have f6 := hi.cells.fr 6
  clear hi
  go_enter Try.func20, Try.ntmps20
  go_wp2
  go_end0
  have g1 := grown_setCell w B 5 (.bool (decide (0 ≤ k)))
  have g2 := grown_setCell (w.setCell ⟨B, 5, none⟩ (.bool (decide (0 ≤ k)))) B 6 (.int .i64 k)
  exact ⟨rfl, S, ⟨bs, bn, v, HI.out.cellsTo (g1.trans g2) (HI.out.cells.setF k) rfl rfl rfl⟩, (Turn.refl S w).grown (g1.trans g2) (.inl HI.out.sB), Grew.refl _ _⟩

set_option maxRecDepth 100000 in
theorem crash_nil (k t : Int) (w : World) : Calls Try.prog 17 #[.pointer none, .int .i64 k, .int .i64 t] w fun e w' => e = .returned (.tuple #[]) ∧ w = w' := by
  go_enter Try.func17, Try.ntmps17
  go_wp2
  refine bodyPost_ret (results_none rfl _ _ _) rfl ?_
  exact ⟨rfl, rfl⟩

theorem stepCells_at (xs : List (Value × Value)) (i : Nat) (h : i < xs.length) : (stepCells xs)[i * 2]? = some xs[i].1 ∧ (stepCells xs)[i * 2 + 1]? = some xs[i].2 := by
  induction xs generalizing i with
  | nil => simp at h
  | cons x xs ih =>
    have e : stepCells (x :: xs) = x.1 :: x.2 :: stepCells xs := rfl
    rw [e]
    cases i with
    | zero => exact ⟨rfl, rfl⟩
    | succ i =>
      have := ih i (by simpa using h)
      rw [show (i + 1) * 2 = i * 2 + 1 + 1 by omega, show i * 2 + 1 + 1 + 1 = (i * 2 + 1) + 1 + 1 by omega]
      simpa using this

theorem neq_nilFunc (w : World) : (binOp .neq 65 .nilFunc .nilFunc).run Try.prog w = .ok (.bool false) w := by kernel_rfl
theorem neq_func (F : FuncId) (caps : Array Value) (w : World) : (binOp .neq 65 (.func (.func F) #[] caps) .nilFunc).run Try.prog w = .ok (.bool true) w := by kernel_rfl
/-- The disk's cells behind a crash. -/
def set7 (w : World) (B : Nat) (room : Int) (f1 f2 : Nat) : World := (((((((w.setCell ⟨B, 0, none⟩ (.int .i64 room)).setCell ⟨B, 1, none⟩ (.map (some f1))).setCell ⟨B, 2, none⟩ (.map (some f2))).setCell ⟨B, 3, none⟩ (.slice none 0 0)).setCell ⟨B, 4, none⟩ (.bool false)).setCell ⟨B, 5, none⟩ (.bool false)).setCell ⟨B, 6, none⟩ (.int .i64 0))
theorem grown_set7 (w : World) (B : Nat) (room : Int) (f1 f2 : Nat) : w.grownBy (set7 w B room f1 f2) (some B) :=
  ((((((grown_setCell _ _ _ _).trans (grown_setCell _ _ _ _)).trans (grown_setCell _ _ _ _)).trans (grown_setCell _ _ _ _)).trans (grown_setCell _ _ _ _)).trans (grown_setCell _ _ _ _)).trans (grown_setCell _ _ _ _)
theorem DCells.set7 {w : World} {B : Nat} {d : DK.D} {bs bn : Nat} {v : Value} (h : DCells w B d bs bn v) (f1 f2 : Nat) (keep tk : Int) : DCells (set7 w B d.room f1 f2) B (DK.crash d keep tk) f1 f2 (.slice none 0 0) := by
  unfold DCells Go.Proofs.Ytfegfbhchdfibaa.set7 World.setCell at *
  simp only [Array.getElem?_modify, if_true, h]
  rfl
theorem DiskIs.crash {w wt w9 : World} {S : Nat → Prop} {B : Nat} {d : DK.D} {bs bn C F2 : Nat} {v : Value} {keep tk : Int} (h : DiskIs w S B d bs bn v) (hC : w.heap.size = C) (hx : Ext w wt) (hf : FilesAt wt C (DK.left d keep tk)) (g9 : Ext wt w9) (hf9 : FilesAt w9 F2 (DK.left d keep tk)) (hF2 : wt.heap.size = F2) (hl9 : F2 < w9.heap.size) :
    Left w S B (DK.crash d keep tk) (set7 w9 B d.room C F2) := by
  have hg := grown_set7 w9 B d.room C F2
  have hB := h.cells.lt
  have hCt := hf.lt
  have hx9 := hx.trans g9
  refine ⟨fun k => S k ∨ k = C ∨ k = F2, ⟨C, F2, .slice none 0 0, ?_⟩, (Turn.of_ext hx9).grown hg (.inl h.sB), fun k hk => ?_⟩
  · constructor
    · exact ((h.ext hx9).cells).set7 C F2 keep tk
    · exact (hf.ext g9).grown hg (by omega)
    · exact hf9.grown hg (by omega)
    · omega
    · exact ⟨[], rfl, World.ownsRow_nil _ _ _ _, fun i hi => absurd hi (Nat.not_lt_zero _)⟩
    · intro e; cases e
    · exact .inl h.sB
    · exact .inr (.inl rfl)
    · exact .inr (.inr rfl)
    · intro g e; cases e
    · intro k hk
      have h1 := hg.size
      have h2 := hx9.size
      rcases hk with h4 | rfl | rfl
      · have := h.lt k h4; omega
      · omega
      · omega
  · have h2 := hx.size
    rcases hk with h4 | rfl | rfl
    · exact .inl h4
    · exact .inr (by omega)
    · exact .inr (by omega)

set_option maxRecDepth 100000 in
set_option maxHeartbeats 2000000 in
theorem disk_crash {w : World} {S : Nat → Prop} {B : Nat} {d : DK.D} {N : Nat} (h : DiskAt w S B d) (hgd : DK.Good N d) (hN : N ≤ 1073741824) (keep tk : Int) :
    Calls Try.prog 17 #[.pointer (some ⟨B, 0, none⟩), .int .i64 keep, .int .i64 tk] w fun e w' => e = .returned (.tuple #[]) ∧ Left w S B (DK.crash d keep tk) w' := by
  obtain ⟨bs, bn, v, hi⟩ := h
  obtain ⟨xs, hxl, hrow, hx⟩ := hi.steps
  obtain ⟨p0, c0, rfl⟩ := row_slice hrow
  obtain ⟨n, hn⟩ : ∃ n, d.todo.length = n := ⟨_, rfl⟩
  obtain ⟨k, hk⟩ : ∃ k, min keep.toNat n = k := ⟨_, rfl⟩
  have hkn : k ≤ n := by omega
  have hmx : ∀ w, (Builtin.max_ #[3, 3] 3 #[.int .i64 keep, .int .i64 0]).run Try.prog w = .ok (.int .i64 (max keep 0)) w := fun w => run_max2 _ _ _ _ _
  have hmn : ∀ w, (Builtin.min_ #[3, 3] 3 #[.int .i64 (max keep 0), .int .i64 n]).run Try.prog w = .ok (.int .i64 k) w := fun w => by rw [run_min2, show min (max keep 0) (n : Int) = k by omega]
  have hcells : ∀ W, Ext w W → ∀ i (h : i < n) (h' : i < xs.length), ∃ g, p0 = some ⟨g, 0, none⟩ ∧ W.cell? ⟨g, i * 2, none⟩ = some xs[i].1 ∧ W.cell? ⟨g, i * 2 + 1, none⟩ = some xs[i].2 := fun W hW i hlt h' => by
    rcases hrow.2 with ⟨hv, h1⟩ | ⟨g, cap, cur, hv, hb, hg, hn', hc, hs, hxx⟩
    · omega
    · injection hv with e1 e2 e3
      subst e1
      have hl : (stepCells xs).length = n * 2 := by rw [← hn]; exact hrow.1
      obtain ⟨s1, s2⟩ := stepCells_at xs i h'
      have k1 := hrow.cellAt (i * 2) (by omega)
      have k2 := hrow.cellAt (i * 2 + 1) (by omega)
      rw [s1] at k1
      rw [s2] at k2
      exact ⟨g, rfl, hW.cell k1, hW.cell k2⟩
  have hcl := files_clone bs d.safe w hi.safe
  have hrf : (p0 = none ∧ n = 0 ∧ c0 = 0) ∨ ∃ g, p0 = some ⟨g, 0, none⟩ := by
    rcases hrow.2 with ⟨hv, h1⟩ | ⟨g, cap, cur, hv, _⟩
    · injection hv with e1 e2 e3
      exact .inl ⟨e1, by omega, e3⟩
    · injection hv with e1 e2 e3
      exact .inr ⟨g, e1⟩
  have HRF := Lib.hid hrf
  clear hrf
  have hcap : n ≤ c0 := by
    rcases hrow.2 with ⟨hv, h1⟩ | ⟨g, cap, cur, hv, hb, hg, hn', hc, hs, hxx⟩
    · omega
    · injection hv with e1 e2 e3
      omega
  have hnl : n ≤ 1073741824 := by have := hgd.len; omega
  have c1 := hi.cells.c1
  have HC3 := Lib.hid hi.cells.c3
  rw [hn] at HC3
  have HI := Lib.hid hi
  have HX := Lib.hid hx
  have HXL := Lib.hid hxl
  have HCE := Lib.hid hcells
  have HCL := Lib.hid hcl
  have HG := Lib.hid hgd
  have HN := Lib.hid hn
  have HK := Lib.hid hk
  clear hi hx hxl hcells hcl hgd hrow hk
  go_enter Try.func17, Try.ntmps17
  go_wp2_with fail
  refine HCL.out.mono ?_
  rintro e w1 ⟨rfl, hf1, hlt1, g1⟩
  have HF1 := Lib.hid hf1
  have HG1 := Lib.hid g1
  have c3 := g1.cell HC3.out
  generalize hC : w.heap.size = C at *
  clear hf1 hlt1 g1 c1
  have HCC := Lib.hid hC
  clear hC
  go_wp2
  go_loopw [33] (fun i W => ∃ (m : Nat), m ≤ k ∧ i = .int .i64 m ∧ Hid (FilesAt W C (DK.runs d.safe (d.todo.take m))) ∧ Ext w W) (fun i _ => k - (intOf i).toNat)
  case atStart => exact ⟨0, by omega, rfl, HF1, HG1.out⟩
  case round =>
    obtain ⟨m, hm, rfl, HF, hx⟩ := hrel
    by_cases hlt : m < k
    · have hmn2 : m < n := by omega
      have hmx2 : m < xs.length := by rw [HXL.out, HN.out]; exact hmn2
      have hmt : m < d.todo.length := by rw [HN.out]; exact hmn2
      obtain ⟨g, rfl, a1, a2⟩ := HCE.out wr hx m hmn2 hmx2
      obtain ⟨hdo, htorn⟩ := HX.out m hmt hmx2
      have hok := HG.out.steps m hmt
      have hsm := (HG.out.small m (by omega)).mono hN
      have hnx : DK.runs d.safe (d.todo.take (m + 1)) = DK.doS (DK.runs d.safe (d.todo.take m)) d.todo[m] := by rw [take_next _ _ hmt, DK.runs_snoc]
      have HNX := Lib.hid hnx
      obtain ⟨F, caps, hv1, hcall, hfun⟩ := hdo
      rw [hv1] at a1
      have hshape : xs[m].2 = .nilFunc ∨ ∃ F caps, xs[m].2 = .func (.func F) #[] caps := by
        rcases htorn with ⟨_, e⟩ | ⟨_, F, caps, e, _⟩
        · exact .inl e
        · exact .inr ⟨F, caps, e⟩
      clear hnx htorn hv1
      rcases hshape with e2 | ⟨F2, caps2, e2⟩
      · rw [e2] at a2
        clear e2
        have xa := (Ext.refl wr).alloc (.cells #[.func (.func F) #[] caps, .nilFunc] 67)
        have b0 : (wr.alloc (.cells #[.func (.func F) #[] caps, .nilFunc] 67)).cell? ⟨wr.heap.size, 0, none⟩ = some (.func (.func F) #[] caps) := alloc_cell wr _ _ 0
        have HFU := Lib.hid (hfun _ (fun k hk _ _ => (hx.trans xa).block hk) C (DK.runs d.safe (d.todo.take m)) (HF.out.ext xa) hok hsm)
        have HXA := Lib.hid (hx.trans xa)
        clear hfun hok hsm hx xa
        go_wp2_with fail
        refine HFU.out.mono ?_
        rintro e w5 ⟨rfl, hf5, hg5⟩
        have HX5 := Lib.hid (ext_grownBy HXA.out hg5 (by rw [HCC.out]; exact Nat.le_refl _))
        have HF5 := Lib.hid hf5
        clear hf5 hg5
        go_wp2
        go_roundw
        case rel => exact ⟨m + 1, by omega, by go_num, Lib.hid (by rw [HNX.out]; exact HF5.out), HX5.out⟩
        case measure => simp [intOf]; omega
      · rw [e2] at a2
        clear e2
        have xa := (Ext.refl wr).alloc (.cells #[.func (.func F) #[] caps, .func (.func F2) #[] caps2] 67)
        have b0 : (wr.alloc (.cells #[.func (.func F) #[] caps, .func (.func F2) #[] caps2] 67)).cell? ⟨wr.heap.size, 0, none⟩ = some (.func (.func F) #[] caps) := alloc_cell wr _ _ 0
        have HFU := Lib.hid (hfun _ (fun k hk _ _ => (hx.trans xa).block hk) C (DK.runs d.safe (d.todo.take m)) (HF.out.ext xa) hok hsm)
        have HXA := Lib.hid (hx.trans xa)
        clear hfun hok hsm hx xa
        go_wp2_with fail
        refine HFU.out.mono ?_
        rintro e w5 ⟨rfl, hf5, hg5⟩
        have HX5 := Lib.hid (ext_grownBy HXA.out hg5 (by rw [HCC.out]; exact Nat.le_refl _))
        have HF5 := Lib.hid hf5
        clear hf5 hg5
        go_wp2
        go_roundw
        case rel => exact ⟨m + 1, by omega, by go_num, Lib.hid (by rw [HNX.out]; exact HF5.out), HX5.out⟩
        case measure => simp [intOf]; omega
    · obtain rfl : m = k := by omega
      have HFK := Lib.hid (show FilesAt wr C (DK.runs d.safe (d.todo.take m)) from HF.out)
      have HX2 := Lib.hid hx
      have HKE := Lib.hid (show min keep.toNat d.todo.length = m by rw [HN.out]; exact HK.out)
      have k3 := hx.cell HC3.out
      have hne1 := neq_nilFunc
      have hne2 := neq_func
      have hi1 : (m : Int) ≤ (n : Int) := by omega
      have hi2 : (m : Int) ≤ (c0 : Int) := by omega
      have hi0 : (0 : Int) ≤ (m : Int) := by omega
      clear hx
      by_cases hlt : m < n
      · have hmt : m < d.todo.length := by rw [HN.out]; exact hlt
        have hmx2 : m < xs.length := by rw [HXL.out, HN.out]; exact hlt
        obtain ⟨g, rfl, a1, a2⟩ := HCE.out wr HX2.out m hlt hmx2
        have hget : d.todo[m]? = some d.todo[m] := List.getElem?_eq_getElem hmt
        have hrl : (0 : Int) < ((n - m : Nat) : Int) := by omega
        have hrl2 : 0 < n - m := by omega
        by_cases ht : 0 < tk
        · obtain ⟨t, rfl⟩ : ∃ t : Nat, tk = (t : Int) := ⟨tk.toNat, by omega⟩
          have ht2 : decide ((0 : Int) < (t : Int)) = true := decide_eq_true ht
          have ht3 : 0 < t := by omega
          rcases (HX.out m hmt hmx2).2 with ⟨hnone, e2⟩ | ⟨⟨n0, k0, s0, hst⟩, F2, caps2, e2, hcall2, hfun2⟩
          · have hleft : DK.left d keep t = DK.runs d.safe (d.todo.take m) := by
              unfold DK.left
              simp only [HKE.out]
              rw [hget]
              simp only [if_pos ht, hnone]
            have HFT : Hid (FilesAt wr C (DK.left d keep t)) := Lib.hid (by rw [hleft]; exact HF.out)
            have HXT := HX2
            clear hleft
            rw [e2] at a2
            clear hget e2 hnone ht
            go_wp2
            have HCL2 := Lib.hid (fun W' (hW : Ext wr W') => files_clone C (DK.left d keep t) W' (HFT.out.ext hW))
            have HB2 := Lib.hid (fun W' (hW : Ext wr W') => (HI.out.ext (HXT.out.trans hW)).cells)
            have r0 := (HB2.out _ (Ext.refl wr)).c0
            refine wp_region_noPanic ?_
            go_region_with ((go_at_call 27; refine (HCL2.out _ (Ext.refl _).drew).mono ?_; rintro e w9 ⟨rfl, hf9, hlt9, g9⟩; have hb9 := HB2.out _ ((Ext.refl wr).drew.trans g9); have z0 := hb9.c0; have z1 := hb9.c1; have z2 := hb9.c2; have z3 := hb9.c3; have z4 := hb9.c4; have z5 := hb9.c5; have z6 := hb9.c6; have y0 := hb9.fr 0; have y1 := hb9.fr 1; have y2 := hb9.fr 2; have y3 := hb9.fr 3; have y4 := hb9.fr 4; have y5 := hb9.fr 5; have y6 := hb9.fr 6; have HF9 := Lib.hid hf9; have HL9 := Lib.hid hlt9; have HG9 := Lib.hid ((Ext.refl wr).drew.trans g9); have HB9 := Lib.hid hb9; clear hf9 hlt9 g9 hb9))
            all_goals
              refine NoPanic.normal ?_
              go_end0
              exact ⟨rfl, HI.out.crash HCC.out HXT.out HFT.out HG9.out HF9.out rfl HL9.out⟩
          · have hok := HG.out.steps m hmt
            have hsm := (HG.out.small m (by omega)).mono hN
            have hft := hfun2 wr (fun k hk _ _ => HX2.out.block hk) C (DK.runs d.safe (d.todo.take m)) t HF.out hok hsm
            have hleft : ∀ st', DK.torn t d.todo[m] = some st' → DK.left d keep t = DK.doS (DK.runs d.safe (d.todo.take m)) st' := by
              intro st' hs'
              unfold DK.left
              simp only [HKE.out]
              rw [hget]
              simp only [if_pos ht]
              rw [show ((t : Int)).toNat = t from rfl, hs']
            rw [e2] at a2
            have HLE := Lib.hid hleft
            have HFN := Lib.hid hft
            clear hget e2 ht hst hok hsm hft hleft hfun2
            go_wp2_with fail
            refine HFN.out.mono ?_
            rintro e w5 ⟨rfl, ⟨st', hs', hf5⟩, hg5⟩
            have HFT : Hid (FilesAt w5 C (DK.left d keep t)) := Lib.hid (by rw [HLE.out st' hs']; exact hf5)
            have HXT := Lib.hid (ext_grownBy HX2.out hg5 (by rw [HCC.out]; exact Nat.le_refl _))
            clear hf5 hg5 hs' k3 a1 a2
            go_wp2
            have HCL2 := Lib.hid (fun W' (hW : Ext w5 W') => files_clone C (DK.left d keep t) W' (HFT.out.ext hW))
            have HB2 := Lib.hid (fun W' (hW : Ext w5 W') => (HI.out.ext (HXT.out.trans hW)).cells)
            have r0 := (HB2.out _ (Ext.refl w5)).c0
            refine wp_region_noPanic ?_
            go_region_with ((go_at_call 27; refine (HCL2.out _ (Ext.refl _).drew).mono ?_; rintro e w9 ⟨rfl, hf9, hlt9, g9⟩; have hb9 := HB2.out _ ((Ext.refl w5).drew.trans g9); have z0 := hb9.c0; have z1 := hb9.c1; have z2 := hb9.c2; have z3 := hb9.c3; have z4 := hb9.c4; have z5 := hb9.c5; have z6 := hb9.c6; have y0 := hb9.fr 0; have y1 := hb9.fr 1; have y2 := hb9.fr 2; have y3 := hb9.fr 3; have y4 := hb9.fr 4; have y5 := hb9.fr 5; have y6 := hb9.fr 6; have HF9 := Lib.hid hf9; have HL9 := Lib.hid hlt9; have HG9 := Lib.hid ((Ext.refl w5).drew.trans g9); have HB9 := Lib.hid hb9; clear hf9 hlt9 g9 hb9))
            all_goals
              refine NoPanic.normal ?_
              go_end0
              exact ⟨rfl, HI.out.crash HCC.out HXT.out HFT.out HG9.out HF9.out rfl HL9.out⟩
        · have hleft : DK.left d keep tk = DK.runs d.safe (d.todo.take m) := by
            unfold DK.left
            simp only [HKE.out]
            rw [hget]
            simp only [if_neg ht]
          have HFT : Hid (FilesAt wr C (DK.left d keep tk)) := Lib.hid (by rw [hleft]; exact HF.out)
          have HXT := HX2
          clear hleft
          have ht2 : decide ((0 : Int) < tk) = false := decide_eq_false ht
          clear hget
          go_wp2
          have HCL2 := Lib.hid (fun W' (hW : Ext wr W') => files_clone C (DK.left d keep tk) W' (HFT.out.ext hW))
          have HB2 := Lib.hid (fun W' (hW : Ext wr W') => (HI.out.ext (HXT.out.trans hW)).cells)
          have r0 := (HB2.out _ (Ext.refl wr)).c0
          refine wp_region_noPanic ?_
          go_region_with ((go_at_call 27; refine (HCL2.out _ (Ext.refl _).drew).mono ?_; rintro e w9 ⟨rfl, hf9, hlt9, g9⟩; have hb9 := HB2.out _ ((Ext.refl wr).drew.trans g9); have z0 := hb9.c0; have z1 := hb9.c1; have z2 := hb9.c2; have z3 := hb9.c3; have z4 := hb9.c4; have z5 := hb9.c5; have z6 := hb9.c6; have y0 := hb9.fr 0; have y1 := hb9.fr 1; have y2 := hb9.fr 2; have y3 := hb9.fr 3; have y4 := hb9.fr 4; have y5 := hb9.fr 5; have y6 := hb9.fr 6; have HF9 := Lib.hid hf9; have HL9 := Lib.hid hlt9; have HG9 := Lib.hid ((Ext.refl wr).drew.trans g9); have HB9 := Lib.hid hb9; clear hf9 hlt9 g9 hb9))
          all_goals
            refine NoPanic.normal ?_
            go_end0
            exact ⟨rfl, HI.out.crash HCC.out HXT.out HFT.out HG9.out HF9.out rfl HL9.out⟩
      · obtain rfl : m = n := by omega
        have hleft : DK.left d keep tk = DK.runs d.safe (d.todo.take m) := by
          unfold DK.left
          simp only [HKE.out]
          rw [List.getElem?_eq_none (by rw [HN.out]; exact Nat.le_refl _)]
        have HFT : Hid (FilesAt wr C (DK.left d keep tk)) := Lib.hid (by rw [hleft]; exact HF.out)
        have HXT := HX2
        clear hleft
        rcases HRF.out with ⟨rfl, rfl, rfl⟩ | ⟨g, rfl⟩
        · go_wp2
          have HCL2 := Lib.hid (fun W' (hW : Ext wr W') => files_clone C (DK.left d keep tk) W' (HFT.out.ext hW))
          have HB2 := Lib.hid (fun W' (hW : Ext wr W') => (HI.out.ext (HXT.out.trans hW)).cells)
          have r0 := (HB2.out _ (Ext.refl wr)).c0
          refine wp_region_noPanic ?_
          go_region_with ((go_at_call 27; refine (HCL2.out _ (Ext.refl _).drew).mono ?_; rintro e w9 ⟨rfl, hf9, hlt9, g9⟩; have hb9 := HB2.out _ ((Ext.refl wr).drew.trans g9); have z0 := hb9.c0; have z1 := hb9.c1; have z2 := hb9.c2; have z3 := hb9.c3; have z4 := hb9.c4; have z5 := hb9.c5; have z6 := hb9.c6; have y0 := hb9.fr 0; have y1 := hb9.fr 1; have y2 := hb9.fr 2; have y3 := hb9.fr 3; have y4 := hb9.fr 4; have y5 := hb9.fr 5; have y6 := hb9.fr 6; have HF9 := Lib.hid hf9; have HL9 := Lib.hid hlt9; have HG9 := Lib.hid ((Ext.refl wr).drew.trans g9); have HB9 := Lib.hid hb9; clear hf9 hlt9 g9 hb9))
          all_goals
            refine NoPanic.normal ?_
            go_end0
            exact ⟨rfl, HI.out.crash HCC.out HXT.out HFT.out HG9.out HF9.out rfl HL9.out⟩
        · go_wp2
          all_goals
            have HCL2 := Lib.hid (fun W' (hW : Ext wr W') => files_clone C (DK.left d keep tk) W' (HFT.out.ext hW))
            have HB2 := Lib.hid (fun W' (hW : Ext wr W') => (HI.out.ext (HXT.out.trans hW)).cells)
            have r0 := (HB2.out _ (Ext.refl wr)).c0
            refine wp_region_noPanic ?_
            go_region_with ((go_at_call 27; refine (HCL2.out _ (Ext.refl _).drew).mono ?_; rintro e w9 ⟨rfl, hf9, hlt9, g9⟩; have hb9 := HB2.out _ ((Ext.refl wr).drew.trans g9); have z0 := hb9.c0; have z1 := hb9.c1; have z2 := hb9.c2; have z3 := hb9.c3; have z4 := hb9.c4; have z5 := hb9.c5; have z6 := hb9.c6; have y0 := hb9.fr 0; have y1 := hb9.fr 1; have y2 := hb9.fr 2; have y3 := hb9.fr 3; have y4 := hb9.fr 4; have y5 := hb9.fr 5; have y6 := hb9.fr 6; have HF9 := Lib.hid hf9; have HL9 := Lib.hid hlt9; have HG9 := Lib.hid ((Ext.refl wr).drew.trans g9); have HB9 := Lib.hid hb9; clear hf9 hlt9 g9 hb9))
            all_goals
              refine NoPanic.normal ?_
              go_end0
              exact ⟨rfl, HI.out.crash HCC.out HXT.out HFT.out HG9.out HF9.out rfl HL9.out⟩
end Go.Proofs.Ytfegfbhchdfibaa
