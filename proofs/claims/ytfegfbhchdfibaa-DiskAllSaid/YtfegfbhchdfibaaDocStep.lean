/- A step upon the document's disk. -/
import Derived.Test.YtfegfbhchdfibaaDocMay
import Derived.Test.YtfegfbhchdfibaaDocTodo
import Derived.Laws.ResultCell
namespace Go.Proofs.Ytfegfbhchdfibaa
open Go.RowKit

theorem three_alloc (w : World) (cs1 cs2 cs3 : Array Value) (t1 t2 t3 : TypeId) :
    (((w.alloc (.cells cs1 t1)).alloc (.cells cs2 t2)).alloc (.cells cs3 t3)).heap[w.heap.size]? = some (.cells cs1 t1) ∧
    (((w.alloc (.cells cs1 t1)).alloc (.cells cs2 t2)).alloc (.cells cs3 t3)).heap[w.heap.size + 1]? = some (.cells cs2 t2) ∧
    (((w.alloc (.cells cs1 t1)).alloc (.cells cs2 t2)).alloc (.cells cs3 t3)).heap[w.heap.size + 1 + 1]? = some (.cells cs3 t3) ∧
    Ext w (((w.alloc (.cells cs1 t1)).alloc (.cells cs2 t2)).alloc (.cells cs3 t3)) := by
  have x3 := (Ext.refl ((w.alloc (.cells cs1 t1)).alloc (.cells cs2 t2))).alloc (.cells cs3 t3)
  have e2 : ((w.alloc (.cells cs1 t1)).alloc (.cells cs2 t2)).heap.size = w.heap.size + 2 := by rw [World.size_alloc, World.size_alloc]
  refine ⟨(x3.block (by omega)).trans (heap_alloc2_old w _ _), (x3.block (by omega)).trans (heap_alloc2_new w _ _), ?_, (((Ext.refl w).alloc _).alloc _).trans x3⟩
  have := heap_alloc_new ((w.alloc (.cells cs1 t1)).alloc (.cells cs2 t2)) (.cells cs3 t3)
  rw [e2] at this
  exact this
theorem box6 {w : World} {B : Nat} {t : TypeId} {a0 a1 a2 a3 a4 a5 : Value} (h : w.heap[B]? = some (.cells #[a0, a1, a2, a3, a4, a5] t (0, 0))) :
    w.cell? ⟨B, 0, none⟩ = some a0 ∧ w.cell? ⟨B, 1, none⟩ = some a1 ∧ w.cell? ⟨B, 2, none⟩ = some a2 ∧ w.cell? ⟨B, 3, none⟩ = some a3 ∧ w.cell? ⟨B, 4, none⟩ = some a4 ∧ w.cell? ⟨B, 5, none⟩ = some a5 :=
  ⟨(cell_row h).1, (cell_row h).1, (cell_row h).1, (cell_row h).1, (cell_row h).1, (cell_row h).1⟩
theorem box5 {w : World} {B : Nat} {t : TypeId} {a0 a1 a2 a3 a4 : Value} (h : w.heap[B]? = some (.cells #[a0, a1, a2, a3, a4] t (0, 0))) :
    w.cell? ⟨B, 0, none⟩ = some a0 ∧ w.cell? ⟨B, 1, none⟩ = some a1 ∧ w.cell? ⟨B, 2, none⟩ = some a2 ∧ w.cell? ⟨B, 3, none⟩ = some a3 ∧ w.cell? ⟨B, 4, none⟩ = some a4 :=
  ⟨(cell_row h).1, (cell_row h).1, (cell_row h).1, (cell_row h).1, (cell_row h).1⟩
theorem boxF {w : World} {B : Nat} {t : TypeId} {cs : Array Value} (h : w.heap[B]? = some (.cells cs t (0, 0))) :
    w.frozen? ⟨B, 0, none⟩ = false ∧ w.frozen? ⟨B, 1, none⟩ = false ∧ w.frozen? ⟨B, 2, none⟩ = false ∧ w.frozen? ⟨B, 3, none⟩ = false ∧ w.frozen? ⟨B, 4, none⟩ = false ∧ w.frozen? ⟨B, 5, none⟩ = false :=
  ⟨(cell_row h).2, (cell_row h).2, (cell_row h).2, (cell_row h).2, (cell_row h).2, (cell_row h).2⟩
def set6 (w : World) (B : Nat) (v0 v1 v2 v3 v4 v5 : Value) : World := ((((((w.setCell ⟨B, 0, none⟩ v0).setCell ⟨B, 1, none⟩ v1).setCell ⟨B, 2, none⟩ v2).setCell ⟨B, 3, none⟩ v3).setCell ⟨B, 4, none⟩ v4).setCell ⟨B, 5, none⟩ v5)
theorem set6_heap {w : World} {B : Nat} {t : TypeId} {a0 a1 a2 a3 a4 a5 : Value} (h : w.heap[B]? = some (.cells #[a0, a1, a2, a3, a4, a5] t (0, 0))) (v0 v1 v2 v3 v4 v5 : Value) : (set6 w B v0 v1 v2 v3 v4 v5).heap[B]? = some (.cells #[v0, v1, v2, v3, v4, v5] t (0, 0)) := by
  unfold set6 World.setCell
  rw [Array.getElem?_modify, if_pos rfl, Array.getElem?_modify, if_pos rfl, Array.getElem?_modify, if_pos rfl, Array.getElem?_modify, if_pos rfl, Array.getElem?_modify, if_pos rfl, Array.getElem?_modify, if_pos rfl, h]
  rfl
theorem grown_set6 (w : World) (B : Nat) (v0 v1 v2 v3 v4 v5 : Value) : w.grownBy (set6 w B v0 v1 v2 v3 v4 v5) (some B) :=
  (((((grown_setCell w B 0 v0).trans (grown_setCell _ B 1 v1)).trans (grown_setCell _ B 2 v2)).trans (grown_setCell _ B 3 v3)).trans (grown_setCell _ B 4 v4)).trans (grown_setCell _ B 5 v5)
theorem ret_D {fn : Func} {p u : Tmp} (h : fn.results = #[.cell p 44, .tmp u]) (tmps : Array Value) (w : World) (g : Nat) (t : TypeId) (v0 v1 v2 v3 v4 v5 : Value) (fr : Nat × Nat) (x : Value)
    (hp : tmps.getD p undef = .pointer (some ⟨g, 0, none⟩)) (hx : tmps.getD u undef = x) (hg : w.heap[g]? = some (.cells #[v0, v1, v2, v3, v4, v5] t fr)) :
    (results fn tmps).run Try.prog w = .ok (.tuple #[.agg #[v0, v1, v2, v3, v4, v5], x]) w := by
  rw [results_cell_tmp h, hp, hx]
  have hl := run_loadVar_row (P := Try.prog) w g t 44 #[v0, v1, v2, v3, v4, v5] fr _ hg Try.underlying44 rfl (by kernel_rfl)
  simp [asAddr, Result.andThen, hl]

/-- How the document's disk is told: its steps, its fuse. -/
structure RelD (d : DK.D) (T : List RStep) (fuse : Int) : Prop where
  todo : d.todo = T.map RStep.st
  wf : ∀ y ∈ T, (0 ≤ y.kind ∧ y.kind ≤ 3) ∧ (y.kind < 2 → 0 ≤ y.at_) ∧ y.s.size ≤ 100000
  fu : -1 ≤ fuse ∧ fuse ≤ 9223372036854775807
  live : d.dead = false → fuse = if d.fused = true then d.fuse else -1
theorem RelD.len {d : DK.D} {T : List RStep} {fuse : Int} (h : RelD d T fuse) : d.todo.length = T.length := by rw [h.todo, List.length_map]
def bF (fuse : Int) : Int := if 0 < fuse then fuse - 1 else fuse
theorem RelD.burn {d : DK.D} {T : List RStep} {fuse : Int} (h : RelD d T fuse) (hl : d.dead = false) (hf : d.fused = true → 0 ≤ d.fuse ∧ d.fuse ≤ 9223372036854775807) : RelD (DK.burn d) T (bF fuse) ∧ (if fuse = 0 then true else d.dead) = (DK.burn d).dead := by
  have h1 := h.live hl
  cases hfu : d.fused with
  | false =>
    have hb : DK.burn d = d := by unfold DK.burn; rw [if_neg (by rw [hfu]; simp)]
    rw [hfu, if_neg (by simp)] at h1
    subst h1
    rw [hb]
    exact ⟨h, by simp⟩
  | true =>
    have hb : DK.burn d = { d with fuse := d.fuse - 1, dead := decide (d.fuse - 1 < 0) } := by unfold DK.burn; rw [if_pos hfu]
    rw [hfu, if_pos rfl] at h1
    subst h1
    have h2 := hf hfu
    rw [hb]
    refine ⟨⟨h.todo, h.wf, ?_, fun hd => ?_⟩, ?_⟩
    · unfold bF; split <;> omega
    · have h3 : ¬ d.fuse - 1 < 0 := of_decide_eq_false hd
      show bF d.fuse = if d.fused = true then d.fuse - 1 else -1
      rw [hfu, if_pos rfl]
      unfold bF
      rw [if_pos (by omega)]
    · show (if d.fuse = 0 then true else d.dead) = decide (d.fuse - 1 < 0)
      by_cases h0 : d.fuse = 0
      · rw [if_pos h0, h0]; rfl
      · rw [if_neg h0, hl, decide_eq_false (by omega)]

theorem DK.did_no (d : DK.D) (e : Int) (st : DK.Step) (h : e ≠ 0) : DK.did d e st = (d, e) := by unfold DK.did; rw [if_pos h]
theorem DK.did_yes (d : DK.D) (st : DK.Step) : DK.did d 0 st = (DK.took d st, if (DK.took d st).dead = true then 10 else 0) := by unfold DK.did; rw [if_neg (by simp)]
theorem rmay_zero {d : DK.D} {y : RStep} (h : DK.rmay d y = 0) : d.dead = false ∧ (y.kind < 2 → 0 ≤ y.at_ ∧ y.at_ ≤ (DK.get d.now y.name).size) ∧ y.name.size ≤ 8 := by
  unfold DK.rmay at h
  split at h
  · cases h
  · rename_i h1
    split at h
    · cases h
    · rename_i h2
      split at h
      · cases h
      · split at h
        · cases h
        · rename_i h4
          refine ⟨by simpa using h1, fun hk => ?_, ?_⟩
          · have h5 : ¬ (y.at_ < 0 ∨ ((DK.get d.now y.name).size : Int) < y.at_) := fun h6 => h4 ⟨hk, h6⟩
            omega
          · have : DK.okN y.name = true := by
              cases hn : DK.okN y.name with
              | true => rfl
              | false => exact absurd (.inl hn) h2
            exact (okN_split this).2
/-- A value that is new, or the old one. -/
def NewOr (w : World) (v0 v : Value) : Prop := v = v0 ∨ New w v

set_option maxRecDepth 100000 in
set_option maxHeartbeats 4000000 in
theorem ref_step {w : World} {d : DK.D} {T : List RStep} {fuse : Int} {sv nv tv : Value} {N : Nat} (hn : FsV w nv d.now) (htv : StsV w tv T) (hsv : FsV w sv d.safe) (hr : RelD d T fuse) (hg : DK.Good N d) (hN : N ≤ 50000) (y : RStep)
    (hy : y.name.size ≤ 20000 ∧ y.to_.size ≤ 20000 ∧ y.s.size ≤ 20000) (hk : 0 ≤ y.kind ∧ y.kind ≤ 3) :
    Calls Try.prog 38 #[.agg (rdCells d.room sv nv tv d.dead fuse), .agg (rsCells y)] w fun e w' => ∃ nv' tv' T' fuse', e = .returned (.tuple #[.agg (rdCells d.room sv nv' tv' (DK.did d (DK.rmay d y) y.st).1.dead fuse'), .int .i64 (DK.did d (DK.rmay d y) y.st).2]) ∧
      FsV w' nv' (DK.did d (DK.rmay d y) y.st).1.now ∧ StsV w' tv' T' ∧ RelD (DK.did d (DK.rmay d y) y.st).1 T' fuse' ∧ Ext w w' ∧ NewOr w nv nv' ∧ NewOr w tv tv' := by
  obtain ⟨p1, c1, rfl⟩ := hsv.slice
  obtain ⟨p2, c2, rfl⟩ := hn.slice
  obtain ⟨p3, c3, rfl⟩ := htv.slice
  have HMAY := Lib.hid (fun (W : World) (he : Ext w W) => ref_may fuse y (hn.ext he) (p1 := p1) (n1 := d.safe.length) (c1 := c1) (p3 := p3) (n3 := T.length) (c3 := c3) rfl rfl (by omega) hk (hg.nowS.mono (by omega)) (fun st h1 h2 h3 => by
    have hs := hg.nowS.step st h3
    have hb : DK.brings st ≤ 40001 := by rw [h1]; unfold RStep.st; rw [if_pos h2]; show _ + _ + 1 ≤ _; omega
    have h4 := DK.sum_le (N + DK.brings st) _ (fun p hp => (hs.2 p hp).2)
    have h5 := hs.1
    have h6 : (DK.doS d.now st).length * (N + DK.brings st + 1) ≤ 100001 * 100002 := Nat.mul_le_mul (by omega) (by omega)
    omega))
  obtain ⟨ans, hans⟩ : ∃ a, DK.rmay d y = a := ⟨_, rfl⟩
  have HANS := Lib.hid hans
  have HN1 := Lib.hid hn
  have HT1 := Lib.hid htv
  have HS1 := Lib.hid hsv
  have HR := Lib.hid hr
  rw [hans] at HMAY ⊢
  unfold rdCells rsCells at *
  obtain ⟨kd, nm, tt, at', s⟩ := y
  simp only at HMAY hy hk ⊢
  obtain ⟨g1, g2, g3, hx⟩ := three_alloc w #[.int .i64 d.room, .slice p1 d.safe.length c1, .slice p2 d.now.length c2, .slice p3 T.length c3, .bool d.dead, .int .i64 fuse] #[.int .i64 kd, .string nm, .string tt, .int .i64 at', .string s] #[.int .i64 0, .slice none 0 0, .slice none 0 0, .slice none 0 0, .bool false, .int .i64 0] 44 75 44
  have HHX := Lib.hid (rfl : w.heap.size = w.heap.size)
  have HX := Lib.hid hx
  obtain ⟨m1, hm1⟩ : ∃ m, d.safe.length = m := ⟨_, rfl⟩
  obtain ⟨m2, hm2⟩ : ∃ m, d.now.length = m := ⟨_, rfl⟩
  obtain ⟨m3, hm3⟩ : ∃ m, T.length = m := ⟨_, rfl⟩
  obtain ⟨room, hroom⟩ : ∃ r, d.room = r := ⟨_, rfl⟩
  rw [hm1] at g1 g2 g3 hx HX HMAY HS1 ⊢
  rw [hm2] at g1 g2 g3 hx HX HMAY HN1 ⊢
  rw [hm3] at g1 g2 g3 hx HX HMAY HT1 ⊢
  rw [hroom] at g1 g2 g3 hx HX HMAY ⊢
  clear hans hn htv hsv hr hx
  go_enter Try.func38, Try.ntmps38
  go_upto_region 1 with fail
  generalize hW : ((w.alloc _).alloc _).alloc _ = W at *
  generalize hX : w.heap.size = X at g1 g2 g3 ⊢
  have HXX := Lib.hid hX
  have lX := (Array.getElem?_eq_some_iff.1 g1).1
  have lY := (Array.getElem?_eq_some_iff.1 g2).1
  have lR := (Array.getElem?_eq_some_iff.1 g3).1
  have HLT := Lib.hid (And.intro lX (And.intro lY lR))
  have HG1 := Lib.hid g1
  have HG2 := Lib.hid g2
  have HG3 := Lib.hid g3
  obtain ⟨a0, a1, a2, a3, a4, a5⟩ := box6 g1
  obtain ⟨d0, d1, d2, d3, d4⟩ := box5 g2
  clear hW hX g1 g2 g3 lX lY lR
  go_wp2_with fail
  refine (HMAY.out W HX.out).mono ?_
  rintro e w1 ⟨rfl, h1⟩
  have HX1 := Lib.hid (HX.out.trans h1)
  have HK1 := Lib.hid ((h1.block HLT.out.1).trans HG1.out)
  have HK2 := Lib.hid ((h1.block HLT.out.2.1).trans HG2.out)
  have HK3 := Lib.hid ((h1.block HLT.out.2.2).trans HG3.out)
  have HL1 := Lib.hid h1.size
  clear a0 a1 a2 a3 a4 a5 d0 d1 d2 d3 d4 h1 HMAY HG1 HG2 HG3
  by_cases h0 : ans = 0
  · subst h0
    obtain ⟨hl, hat, _⟩ := rmay_zero HANS.out
    simp only at hat
    have hlen : m3 ≤ N := by rw [← hm3, ← HR.out.len]; exact hg.len
    have hst := RelD.burn (d := { d with todo := d.todo ++ [RStep.st ⟨kd, nm, tt, at', s⟩], now := DK.doS d.now (RStep.st ⟨kd, nm, tt, at', s⟩) }) (T := T ++ [⟨kd, nm, tt, at', s⟩]) (fuse := fuse)
      ⟨by show d.todo ++ [_] = _; rw [List.map_append, HR.out.todo]; rfl, fun z hz => by
        rcases List.mem_append.1 hz with h | h
        · exact HR.out.wf z h
        · obtain rfl : z = ⟨kd, nm, tt, at', s⟩ := by simpa using h
          exact ⟨hk, fun h => (hat h).1, by simp only; omega⟩, HR.out.fu, HR.out.live⟩ hl (fun h => hg.fuse h hl)
    obtain ⟨hrel, hdq⟩ := hst
    have HREL : Hid (RelD (DK.took d (RStep.st ⟨kd, nm, tt, at', s⟩)) (T ++ [⟨kd, nm, tt, at', s⟩]) (bF fuse)) := Lib.hid hrel
    obtain ⟨q, hq⟩ : ∃ q, (DK.took d (RStep.st ⟨kd, nm, tt, at', s⟩)).dead = q := ⟨_, rfl⟩
    have hqq : (if fuse = 0 then true else d.dead) = q := hdq.trans hq
    obtain ⟨fz, hfz⟩ : ∃ fz, bF fuse = fz := ⟨_, rfl⟩
    have HBURN : Hid (∀ (p : Option Addr) (n c : Nat) (p' : Option Addr) (n' c' : Nat) (w' : World), Calls Try.prog 52 #[.agg #[.int .i64 room, .slice p1 m1 c1, .slice p n c, .slice p' n' c', .bool d.dead, .int .i64 fuse]] w' fun e w'' => e = .returned (.agg #[.int .i64 room, .slice p1 m1 c1, .slice p n c, .slice p' n' c', .bool q, .int .i64 fz]) ∧ Ext w' w'') := Lib.hid fun p n c p' n' c' w' => by
      have h := ref_burn room fuse p1 p p' m1 c1 n c n' c' d.dead w' HR.out.fu
      unfold rdCells at h
      rw [hqq, show (if 0 < fuse then fuse - 1 else fuse) = fz from hfz] at h
      exact h
    rw [hfz] at HREL
    have HQ := Lib.hid hq
    have HDO := Lib.hid (fun (W' : World) (he : Ext w W') => ref_do (HN1.out.ext he) ⟨kd, nm, tt, at', s⟩ (rs_ok hat hk (by simp only; omega) (hg.nowS.mono (by omega))))
    unfold rsCells at HDO
    simp only at HDO
    have HM3 := Lib.hid hm3
    obtain ⟨k0, k1, k2, k3, k4, k5⟩ := box6 HK1.out
    clear hrel hdq hq hqq hfz hm3 hat hl
    go_wp2
    refine do_todo X (X + 1) m3 c3 p3 _ _ _ _ _ kd at' nm tt s T HK1.out HK2.out (Lib.hid (HT1.out.ext HX1.out)) HM3 (by omega) (by omega) _ _ _ _ _ _ _ _ _ _ _ _ _ _ _ _ _ _ _ _ _ _ _ _ _ _ _ _ _ _ _ _ (Lib.hid ?_) _ (by rfl)
    intro W4 p' c' v14 v15 v16 v17 v18 v19 v20 v21 hT4
    have lt1 : X + 1 < w1.heap.size := by have := HL1.out; have := HLT.out; omega
    have lt2 : X + 1 + 1 < w1.heap.size := by have := HL1.out; have := HLT.out; omega
    have HT4 := Lib.hid hT4
    have HX4 := Lib.hid (HX1.out.grown hT4.rest (fun k e => by injection e with e; have := HXX.out; omega))
    have HJ2 := Lib.hid ((hT4.rest.block (X + 1) lt1 (by intro e; injection e with e; omega)).trans HK2.out)
    have HJ3 := Lib.hid ((hT4.rest.block (X + 1 + 1) lt2 (by intro e; injection e with e; omega)).trans HK3.out)
    have HJ1 := Lib.hid hT4.cells
    obtain ⟨e0, e1, e2, e3, e4, e5⟩ := box6 hT4.cells
    obtain ⟨d0, d1, d2, d3, d4⟩ := box5 HJ2.out
    clear k0 k1 k2 k3 k4 k5 hT4 lt1 lt2 HK1 HK2 HK3
    go_wp2_with fail
    refine (HDO.out W4 HX4.out).mono ?_
    rintro e w5 ⟨v5, rfl, hv5, g5, hnw⟩
    have HV5 := Lib.hid hv5
    have HNW := Lib.hid hnw
    have HG5 := Lib.hid g5
    have HX5 := Lib.hid (HX4.out.trans g5)
    have hi1 := (g5.block (Array.getElem?_eq_some_iff.1 HJ1.out).1).trans HJ1.out
    have HI1 := Lib.hid hi1
    have HI3 := Lib.hid ((g5.block (Array.getElem?_eq_some_iff.1 HJ3.out).1).trans HJ3.out)
    obtain ⟨p5, c5, rfl, _, _⟩ := hv5
    obtain ⟨f0, f1, f2, f3, f4, f5⟩ := box6 hi1
    obtain ⟨q0, q1, q2, q3, q4, q5⟩ := boxF hi1
    generalize (DK.doS d.now (RStep.st ⟨kd, nm, tt, at', s⟩)).length = m5 at *
    clear e0 e1 e2 e3 e4 e5 d0 d1 d2 d3 d4 hi1 g5 hnw
    go_wp2_with fail
    have hsc : (w5.setCell ⟨X, 2, none⟩ (.slice p5 m5 c5)).heap[X]? = some (.cells #[.int .i64 room, .slice p1 m1 c1, .slice p5 m5 c5, .slice p' (m3 + 1) c', .bool d.dead, .int .i64 fuse] 44 (0, 0)) := by
      have := HI1.out
      unfold World.setCell
      rw [Array.getElem?_modify, if_pos rfl, this]
      rfl
    have HSC := Lib.hid hsc
    have gsc := grown_setCell w5 X 2 (.slice p5 m5 c5)
    have HS3 := Lib.hid ((gsc.block (X + 1 + 1) (Array.getElem?_eq_some_iff.1 HI3.out).1 (by intro e; injection e with e; omega)).trans HI3.out)
    have HXS := Lib.hid (HX5.out.grown gsc (fun k e => by injection e with e; have := HXX.out; omega))
    clear f0 f1 f2 f3 f4 f5 q0 q1 q2 q3 q4 q5 hsc gsc
    refine (HBURN.out _ _ _ _ _ _ _).mono ?_
    rintro e w6 ⟨rfl, g6⟩
    have hk1 := (g6.block (Array.getElem?_eq_some_iff.1 HSC.out).1).trans HSC.out
    have hk3 := (g6.block (Array.getElem?_eq_some_iff.1 HS3.out).1).trans HS3.out
    obtain ⟨f0, f1, f2, f3, f4, f5⟩ := box6 hk1
    obtain ⟨q0, q1, q2, q3, q4, q5⟩ := boxF hk1
    obtain ⟨r0, r1, r2, r3, r4, r5⟩ := box6 hk3
    obtain ⟨s0, s1, s2, s3, s4, s5⟩ := boxF hk3
    have hx6 := HXS.out.trans g6
    have gA := grown_set6 w6 X (.int .i64 room) (.slice p1 m1 c1) (.slice p5 m5 c5) (.slice p' (m3 + 1) c') (.bool q) (.int .i64 fz)
    have hR := (gA.block (X + 1 + 1) (Array.getElem?_eq_some_iff.1 hk3).1 (by intro e; injection e with e; omega)).trans hk3
    have HRR := Lib.hid hR
    have hxA := hx6.grown gA (fun k e => by injection e with e; have := HXX.out; omega)
    have gB := grown_set6 (set6 w6 X (.int .i64 room) (.slice p1 m1 c1) (.slice p5 m5 c5) (.slice p' (m3 + 1) c') (.bool q) (.int .i64 fz)) (X + 1 + 1) (.int .i64 room) (.slice p1 m1 c1) (.slice p5 m5 c5) (.slice p' (m3 + 1) c') (.bool q) (.int .i64 fz)
    have HXB := Lib.hid (hxA.grown gB (fun k e => by injection e with e; have := HXX.out; omega))
    have ht5 := ((((Turn.refl (fun k => k = X ∨ k = X + 1 + 1) w5).grown (grown_setCell w5 X 2 (.slice p5 m5 c5)) (.inl (.inl rfl))).more g6).grown gA (.inl (.inl rfl))).grown gB (.inl (.inr rfl))
    have HV9 := Lib.hid (HV5.out.turn ht5 (Off.new HNW.out (fun k hk => by have h1 := (Array.getElem?_eq_some_iff.1 HJ3.out).1; have h2 := (Array.getElem?_eq_some_iff.1 HJ1.out).1; omega)))
    have HT9 := Lib.hid (HT4.out.todo.turn ((Turn.of_ext HG5.out).trans' ht5) (Off.new HT4.out.new (fun k hk => by have h1 := HL1.out; have h2 := HLT.out; omega)))
    clear hR hxA gA gB hx6 hk1 hk3 g6 ht5
    have hnow : (DK.took d (RStep.st ⟨kd, nm, tt, at', s⟩)).now = DK.doS d.now (RStep.st ⟨kd, nm, tt, at', s⟩) := DK.burn_now _
    have HNOW := Lib.hid hnow
    clear hnow
    cases q with
    | true =>
      go_wp2
      refine bodyPost_ret (ret_D rfl _ _ (X + 1 + 1) _ _ _ _ _ _ _ _ _ rfl rfl (set6_heap HRR.out _ _ _ _ _ _)) rfl ?_
      rw [DK.did_yes, HQ.out, HNOW.out]
      exact ⟨_, _, _, fz, rfl, HV9.out, HT9.out, HREL.out, HXB.out, .inr (HNW.out.from_ HX4.out), .inr (HT4.out.new.from_ HX1.out)⟩
    | false =>
      go_wp2
      refine bodyPost_ret (ret_D rfl _ _ (X + 1 + 1) _ _ _ _ _ _ _ _ _ rfl rfl (set6_heap HRR.out _ _ _ _ _ _)) rfl ?_
      rw [DK.did_yes, HQ.out, HNOW.out]
      exact ⟨_, _, _, fz, rfl, HV9.out, HT9.out, HREL.out, HXB.out, .inr (HNW.out.from_ HX4.out), .inr (HT4.out.new.from_ HX1.out)⟩
  · obtain ⟨k0, k1, k2, k3, k4, k5⟩ := box6 HK1.out
    obtain ⟨r0, r1, r2, r3, r4, r5⟩ := box6 HK3.out
    obtain ⟨q0, q1, q2, q3, q4, q5⟩ := boxF HK3.out
    have t0 : (ans != 0) = true := bne_iff_ne.2 h0
    have HE0 := Lib.hid h0
    clear h0
    go_wp2
    refine bodyPost_ret (ret_D rfl _ _ (X + 1 + 1) _ _ _ _ _ _ _ _ _ rfl rfl (set6_heap HK3.out _ _ _ _ _ _)) rfl ?_
    rw [DK.did_no _ _ _ HE0.out]
    have hx9 := HX1.out.grown (grown_set6 w1 (X + 1 + 1) (.int .i64 room) (.slice p1 m1 c1) (.slice p2 m2 c2) (.slice p3 m3 c3) (.bool d.dead) (.int .i64 fuse)) (fun k e => by injection e with e; have := HXX.out; omega)
    exact ⟨_, _, T, fuse, rfl, HN1.out.ext hx9, HT1.out.ext hx9, HR.out, hx9, .inl rfl, .inl rfl⟩
end Go.Proofs.Ytfegfbhchdfibaa
