/- What with answers: a set that may be, with a dot that is not there. -/
import Derived.Test.YtdgjjlffdfpkcaaWithMem
import Derived.Deep.RegionWith
import Derived.Deep.CutRange
namespace Go.Proofs.Ytdgjjlffdfpkcaa
open Go.RowKit Go.Shelf Go.Lib

/-- Jumps back to one label: the code behind it is walked once. -/
theorem wp_scope_once {P : Program} {a : Act} {w : World} {Q : Exit → Act → World → Prop} {c rest : Code} (l : Nat) (J : Act → World → Prop) (μ : Act → World → Nat) (hf : findLabel c l = some (.seq .skip rest))
    (pass : ∀ a w, J a w → rest.wp P (Exit.jump l (fun a' w' => J a' w' ∧ μ a' w' < μ a w) Q) a w)
    (first : (∀ a w, J a w → rest.wp P (Exit.jump l J Q) a w) → c.wp P (Exit.jump l J Q) a w) : (Code.scope c).wp P Q a w := by
  refine wp_scope_jumps l J μ hf (first fun a w h => Code.wp_mono ?_ (pass a w h)) fun a w h => wp_seq (wp_skip (pass a w h))
  intro e a' w' h
  cases e <;> first | exact h | exact ⟨h.1, h.2.1⟩

/-- Between two passes: the set in its box, its further dots in a row of one's own. -/
structure WithI (w W : World) (d : Dot) (R : DS.S) (K : Nat) (x vb ve : Value) (s : DS.S) : Prop where
  box : Two W w.heap.size 29 vb ve
  dot : Two W (w.heap.size + 1) 26 (.int .i64 d.1) (.int .i64 d.2)
  out : Two W (w.heap.size + 2) 29 (.slice none 0 0) (.slice none 0 0)
  next : Two W K 26 (.int .i64 d.1) x
  base : DotsV W vb s.base
  offs : NewV (w.heap.size + 3) vb ∧ Off K vb ∧ ∀ k, ve.ownBlock = some k → Off k vb
  row : W.ownsRow (w.heap.size + 3) 26 2 ve s.extra.length (dotCells s.extra)
  nrow : ve.ownBlock ≠ some K
  big : w.heap.size + 3 ≤ K
  ext : Ext w W
  semi : DS.Semi d.1 s
  done : DS.done d.1 s = R
  small : s.extra.length ≤ 200000

def WithJ (w : World) (d : Dot) (R : DS.S) (a : Act) (W : World) : Prop :=
  ∃ (K : Nat) (x vb ve p0 p1 p5 p6 : Value) (s : DS.S) (u8 u9 u10 u11 u12 u13 u14 u15 u16 u17 u18 u19 u20 u21 u22 u23 u24 u25 u26 u27 u28 u29 u30 u31 u32 u33 u34 u35 u36 u37 u38 u39 u40 u41 u42 u43 u44 u45 u46 u47 u48 u49 u50 u51 u52 u53 u54 u55 : Value), a = { tmps := #[p0, p1, .pointer (some ⟨w.heap.size, 0, none⟩), .pointer (some ⟨w.heap.size + 1, 0, none⟩), .pointer (some ⟨w.heap.size + 2, 0, none⟩), p5, p6, .pointer (some ⟨K, 0, none⟩), u8, u9, u10, u11, u12, u13, u14, u15, u16, u17, u18, u19, u20, u21, u22, u23, u24, u25, u26, u27, u28, u29, u30, u31, u32, u33, u34, u35, u36, u37, u38, u39, u40, u41, u42, u43, u44, u45, u46, u47, u48, u49, u50, u51, u52, u53, u54, u55], defers := [] } ∧ WithI w W d R K x vb ve s

def WithF (w : World) (a : Act) : Prop :=
  ∃ (p0 p1 p5 p6 p7 : Value) (u8 u9 u10 u11 u12 u13 u14 u15 u16 u17 u18 u19 u20 u21 u22 u23 u24 u25 u26 u27 u28 u29 u30 u31 u32 u33 u34 u35 u36 u37 u38 u39 u40 u41 u42 u43 u44 u45 u46 u47 u48 u49 u50 u51 u52 u53 u54 u55 : Value), a = { tmps := #[p0, p1, .pointer (some ⟨w.heap.size, 0, none⟩), .pointer (some ⟨w.heap.size + 1, 0, none⟩), .pointer (some ⟨w.heap.size + 2, 0, none⟩), p5, p6, p7, u8, u9, u10, u11, u12, u13, u14, u15, u16, u17, u18, u19, u20, u21, u22, u23, u24, u25, u26, u27, u28, u29, u30, u31, u32, u33, u34, u35, u36, u37, u38, u39, u40, u41, u42, u43, u44, u45, u46, u47, u48, u49, u50, u51, u52, u53, u54, u55], defers := [] }

/-- The further dots are put. -/
structure WithR (w W : World) (d : Dot) (vb ve : Value) (l : List Dot) : Prop where
  box : Two W w.heap.size 29 vb ve
  dot : Two W (w.heap.size + 1) 26 (.int .i64 d.1) (.int .i64 d.2)
  out : Two W (w.heap.size + 2) 29 (.slice none 0 0) (.slice none 0 0)
  row : W.ownsRow (w.heap.size + 3) 26 2 ve l.length (dotCells l)
  ext : Ext w W

def extraLen (b : Nat) (W : World) : Nat := match W.cell? ⟨b, 1, none⟩ with | some (.slice _ n _) => n | _ => 0
theorem extraLen_eq {b : Nat} {W : World} {p : Option Addr} {n c : Nat} (h : W.cell? ⟨b, 1, none⟩ = some (.slice p n c)) : extraLen b W = n := by unfold extraLen; rw [h]

theorem WithI.set {w W : World} {d : Dot} {R : DS.S} {K : Nat} {x vb ve : Value} {s : DS.S} (h : WithI w W d R K x vb ve s) : SetV W (.agg #[vb, ve]) s :=
  ⟨vb, ve, rfl, h.base, row_dots h.row (fun y hy => (h.semi.good y hy).fit) (by have := h.small; omega)⟩

/-- The count of the dot asked for is set. -/
theorem WithI.asked {w W : World} {d : Dot} {R : DS.S} {K : Nat} {x vb ve : Value} {s : DS.S} (h : WithI w W d R K x vb ve s) (y : Value) : WithI w (W.setCell ⟨K, 1, none⟩ y) d R K y vb ve s := by
  have hg := grown_setCell W K 1 y
  have hb := h.big
  exact ⟨h.box.grown hg (by omega), h.dot.grown hg (by omega), h.out.grown hg (by omega), h.next.set1 y, h.base.grown hg h.offs.2.1, h.offs, row_grown h.row hg h.nrow, h.nrow, h.big, ext_grownBy h.ext hg (by omega), h.semi, h.done, h.small⟩
theorem WithI.more {w W W' : World} {d : Dot} {R : DS.S} {K : Nat} {x vb ve : Value} {s : DS.S} (h : WithI w W d R K x vb ve s) (he : Ext W W') : WithI w W' d R K x vb ve s :=
  ⟨h.box.ext he, h.dot.ext he, h.out.ext he, h.next.ext he, h.base.ext he, h.offs, row_to h.row he, h.nrow, h.big, h.ext.trans he, h.semi, h.done, h.small⟩

/-- What stands behind a label, in a function's body. -/
def restOf (l : Nat) : Code → Option Code
  | .seq a b => (restOf l a).orElse fun _ => restOf l b
  | .scope c => match findLabel c l with | some (.seq .skip r) => some r | _ => none
  | _ => none

set_option maxRecDepth 100000 in
set_option maxHeartbeats 8000000 in
theorem with_pass (s : DS.S) (d1 d2 : Int) (w : World) (hok : DS.Ok s) (rest : Code) (hr : Try.f41.body.bind (restOf 0) = some rest) (a : Act) (W : World) (hJ : WithJ w (d1, d2) (DS.plus s (d1, d2)) a W) :
    rest.wp Try.prog (Exit.jump 0 (fun a' w' => WithJ w (d1, d2) (DS.plus s (d1, d2)) a' w' ∧ extraLen w.heap.size w' < extraLen w.heap.size W) (bodyPost Try.prog Try.f41 fun e w' => ∃ v', e = .returned v' ∧ SetV w' v' (DS.plus s (d1, d2)) ∧ Ext w w')) a W := by
  simp [Try.f41, restOf, findLabel] at hr
  subst hr
  obtain ⟨K, x, vb, ve, p0, p1, p5, p6, s', u8, u9, u10, u11, u12, u13, u14, u15, u16, u17, u18, u19, u20, u21, u22, u23, u24, u25, u26, u27, u28, u29, u30, u31, u32, u33, u34, u35, u36, u37, u38, u39, u40, u41, u42, u43, u44, u45, u46, u47, u48, u49, u50, u51, u52, u53, u54, u55, rfl, hI⟩ := hJ
  have hb := hI.base
  obtain ⟨pb', cb', rfl, _⟩ := hb
  obtain ⟨pe', ce', rfl⟩ := row_slice hI.row
  have hchk : Vec.checkE (-1) s'.base = 0 := Vec.check_ok.2 hI.semi.vec
  have hget := vec_get _ s'.base d1 W hI.base
  unfold getL at hget
  rw [if_pos hchk] at hget
  have hcn := Vec.cnt_nonneg hI.semi.vec d1
  have hcl := Vec.cnt_le hI.semi.vec d1
  obtain ⟨q, hq⟩ : ∃ q, Vec.cnt s'.base d1 = q := ⟨_, rfl⟩
  rw [hq] at hget hcn hcl
  have HG := Lib.hid hget
  have HQ := Lib.hid hq
  have f1 := hI.box.c0
  have f2 := hI.dot.c0
  have HI := Lib.hid hI
  clear hget hq hchk hI
  generalize hnb : s'.base.length = nb at *
  have HNB := Lib.hid hnb
  clear hnb
  go_wp2_with fail
  refine HG.out.mono ?_
  rintro e w5 ⟨rfl, g5⟩
  have hI5 := HI.out.more g5
  have l1 := hI5.next.c1
  have l2 := hI5.next.f1
  have hI6 := hI5.asked (.int .i64 (q + 1))
  have hx5 := (grown_setCell w5 K 1 (.int .i64 (q + 1)))
  generalize hw6 : w5.setCell ⟨K, 1, none⟩ (.int .i64 (q + 1)) = w6 at *
  have m1 := hI6.box.c0
  have m2 := hI6.box.c1
  have m3 := hI6.next.c0
  have m4 := hI6.next.c1
  go_wp2_with fail
  refine (set_find _ s' (d1, q + 1) w6 hI6.set hI6.semi.sorted).mono ?_
  rintro e w7 ⟨i, hlo, rfl, g7⟩
  have hI7 := hI6.more g7
  have hHM := hit_mem hI6.semi.sorted hlo
  have hil := hlo.1
  have hli : hit (fun y => cmpD y (d1, q + 1)) s'.extra i = true → ∃ hi : i < s'.extra.length, s'.extra[i] = (d1, q + 1) := fun hh => by
    unfold hit at hh
    by_cases hi : i < s'.extra.length
    · rw [List.getElem?_eq_getElem hi] at hh
      exact ⟨hi, (DS.cmpD_zero _ _).1 (by simpa using hh)⟩
    · rw [List.getElem?_eq_none (by omega)] at hh; cases hh
  have hnx : DS.next (d1, q + 1).1 s' = (d1, q + 1) := by unfold DS.next; rw [HQ.out]
  rw [hHM] at hli ⊢
  clear hHM hlo m1 m2 m3 m4 f1 f2 l1 l2 hx5 hw6
  by_cases hin : (d1, q + 1) ∈ s'.extra
  · rw [decide_eq_true hin] at hli ⊢
    obtain ⟨hi, hat⟩ := hli rfl
    obtain ⟨m, hm2⟩ : ∃ m, s'.extra.length = i + 1 + m := ⟨s'.extra.length - i - 1, by omega⟩
    have hgood := hI7.semi.good _ hin
    have hi2 : i ≤ 200000 := by have := hI7.small; omega
    have hmu : extraLen w.heap.size W = i + 1 + m := by rw [extraLen_eq HI.out.box.c1, hm2]
    obtain ⟨g, rfl⟩ : ∃ g, pe' = some ⟨g, 0, none⟩ := by
      rcases hI7.row.2 with ⟨_, h0⟩ | ⟨g, _, _, hv, _⟩
      · omega
      · injection hv with hv
        exact ⟨g, hv⟩
    have k1 := hI7.box.c0
    have k2 := hI7.box.c1
    have k3 := hI7.next.c0
    have k4 := hI7.next.c1
    have hgb := (hI7.row.lt g rfl).1
    have hgK : g ≠ K := fun e => hI7.nrow (by rw [← e]; rfl)
    have HI7 := Lib.hid hI7
    have HN7 := Lib.hid hnx
    have HAT := Lib.hid hat
    have HMU := Lib.hid hmu
    clear hI7 hI6 hI5 HI hnx hli hat hmu
    go_wp2_with fail
    refine (vec_with _ (d1, q + 1) s'.base w7 HI7.out.base hgood.fit).mono ?_
    rintro e w8 ⟨v8, rfl, hd8, hn8, g8⟩
    obtain ⟨p8, c8, rfl, hd8'⟩ := hd8
    have hI8 := HI7.out.more g8
    have hdv8 : DotsV w8 (.slice p8 (Vec.joinL s'.base [(d1, q + 1)]).length c8) (Vec.joinL s'.base [(d1, q + 1)]) := ⟨p8, c8, rfl, hd8'⟩
    have hw7s : w.heap.size + 3 ≤ w7.heap.size ∧ K < w7.heap.size ∧ g < w7.heap.size := ⟨by have := HI7.out.next.lt; have := HI7.out.big; omega, HI7.out.next.lt, (HI7.out.row.lt g rfl).2⟩
    generalize hJL : Vec.joinL s'.base [(d1, q + 1)] = JL at *
    generalize hjl : JL.length = jn at *
    have l1 := hI8.box.c0
    have l2 := hI8.box.f0
    have hg9 := grown_setCell w8 w.heap.size 0 (.slice p8 jn c8)
    have b9 := hI8.box.set0 (.slice p8 jn c8)
    have d9 := hI8.dot.grown hg9 (by omega)
    have o9 := hI8.out.grown hg9 (by omega)
    have n9 := hI8.next.grown hg9 (by have := hI8.big; omega)
    have v9 := hdv8.grown hg9 (hn8.off (by omega))
    have r9 := row_grown hI8.row hg9 (fun ej => by have := (hI8.row.lt _ ej).1; omega)
    have e9 := ext_grownBy hI8.ext hg9 (Nat.le_refl _)
    generalize hw9 : w8.setCell ⟨w.heap.size, 0, none⟩ (.slice p8 jn c8) = w9 at *
    have m2 := b9.c1
    have HD9 := Lib.hid d9
    have HO9 := Lib.hid o9
    have HN9 := Lib.hid n9
    have HV9 := Lib.hid v9
    have HR9 := Lib.hid r9
    have HB9 := Lib.hid b9
    have HE9 := Lib.hid e9
    have HN8 := Lib.hid hn8
    have HJL := Lib.hid hJL
    clear d9 o9 n9 v9 r9 b9 e9 hI8 hdv8 hg9 hn8 hJL hjl hd8'
    go_wp2_with fail
    have hr9 := HR9.out
    rw [hm2] at hr9
    refine (dots_delete g i m ce' (w.heap.size + 3) s'.extra w9 hm2 hr9).mono ?_
    rintro e w10 ⟨rfl, hr10, hg10⟩
    have b10 := HB9.out.grown hg10 (by omega)
    have x1 := b10.c1
    have x2 := b10.f1
    have hg11 := grown_setCell w10 w.heap.size 1 (.slice (some ⟨g, 0, none⟩) (i + m) ce')
    have b11 := b10.set1 (.slice (some ⟨g, 0, none⟩) (i + m) ce')
    have d11 := (HD9.out.grown hg10 (by omega)).grown hg11 (by omega)
    have o11 := (HO9.out.grown hg10 (by omega)).grown hg11 (by omega)
    have n11 := (HN9.out.grown hg10 (fun e => hgK e.symm)).grown hg11 (by have := HI7.out.big; omega)
    have v11 := (HV9.out.grown hg10 (HN8.out.off (by omega))).grown hg11 (HN8.out.off (by omega))
    have r11 := row_grown hr10 hg11 (fun ej => by have := (hr10.lt _ ej).1; omega)
    have e11 := ext_grownBy (ext_grownBy HE9.out hg10 (by omega)) hg11 (Nat.le_refl _)
    clear hr9 hg10 hr10 b10 hg11
    generalize hw11 : w10.setCell ⟨w.heap.size, 1, none⟩ (.slice (some ⟨g, 0, none⟩) (i + m) ce') = w11 at *
    have HB11 := Lib.hid b11
    have HD11 := Lib.hid d11
    have HO11 := Lib.hid o11
    have HN11 := Lib.hid n11
    have HV11 := Lib.hid v11
    have HR11 := Lib.hid r11
    have HE11 := Lib.hid e11
    clear b11 d11 o11 n11 v11 r11 e11
    go_wp2
    go_step3
    have hext : (DS.moved d1 s').extra = s'.extra.take i ++ s'.extra.drop (i + 1) := by
      unfold DS.moved
      simp only
      rw [HN7.out]
      exact filter_at HI7.out.semi.sorted (by omega) HAT.out
    have hbas : (DS.moved d1 s').base = JL := by unfold DS.moved; simp only; rw [HN7.out]; exact HJL.out
    have hnin : DS.next (d1, d2).1 s' ∈ s'.extra := by rw [HN7.out]; exact hin
    have hlen : (DS.moved d1 s').extra.length = i + m := by rw [hext]; simp; omega
    refine ⟨rfl, ⟨K, .int .i64 (q + 1), .slice p8 jn c8, .slice (some ⟨g, 0, none⟩) (i + m) ce', _, _, _, _, DS.moved d1 s', _, _, _, _, _, _, _, _, _, _, _, _, _, _, _, _, _, _, _, _, _, _, _, _, _, _, _, _, _, _, _, _, _, _, _, _, _, _, _, _, _, _, _, _, _, _, _, _, rfl, ?_⟩, ?_⟩
    · refine ⟨HB11.out, HD11.out, HO11.out, HN11.out, ?_, ⟨HN8.out.mono (by omega), HN8.out.off (by omega), ?_⟩, ?_, ?_, HI7.out.big, HE11.out, DS.moved_semi HI7.out.semi hnin, ?_, ?_⟩
      · rw [hbas]; exact HV11.out
      · intro k ek
        injection ek with ek
        subst ek
        show Off g _
        exact HN8.out.off (by omega)
      · rw [hlen, hext]; exact HR11.out
      · intro ek
        injection ek with ek
        exact hgK ek
      · rw [← HI7.out.done]; exact (DS.done_next HI7.out.semi hnin).symm
      · rw [hlen]; have := HI7.out.small; omega
    · rw [HMU.out, extraLen_eq HB11.out.c1]; omega
  · rw [decide_eq_false hin] at hli ⊢
    have hok7 := hI7.semi.ok (by rw [hnx]; exact hin)
    have hres : s' = DS.plus s (d1, d2) := by rw [← hI7.done]; exact (DS.done_end (by rw [hnx]; exact hin)).symm
    have k1 := hI7.box.c0
    have k2 := hI7.box.c1
    have k3 := hI7.out.c0
    have k4 := hI7.out.c1
    have k5 := hI7.out.f0
    have k6 := hI7.out.f1
    have HI7 := Lib.hid hI7
    have HRES := Lib.hid hres
    clear hI7 hI6 hI5 HI hnx hli hres hok7
    go_wp2_with fail
    simp only [Exit.jump]
    have hg8 := grown_setCell w7 (w.heap.size + 2) 0 (.slice pb' nb cb')
    have hg9 := grown_setCell (w7.setCell ⟨w.heap.size + 2, 0, none⟩ (.slice pb' nb cb')) (w.heap.size + 2) 1 (.slice pe' s'.extra.length ce')
    have hout := (HI7.out.out.set0 (.slice pb' nb cb')).set1 (.slice pe' s'.extra.length ce')
    have hrn : Value.ownBlock (.slice pe' s'.extra.length ce') ≠ some (w.heap.size + 2) := fun ej => by have := (HI7.out.row.lt _ ej).1; omega
    refine bodyPost_ret (results_cell_row rfl _ _ (w.heap.size + 2) _ _ _ _ rfl hout Try.underlying29 rfl (by kernel_rfl)) rfl ?_
    refine ⟨_, rfl, ?_, ext_grownBy (ext_grownBy HI7.out.ext hg8 (by omega)) hg9 (by omega)⟩
    rw [← HRES.out]
    refine ⟨_, _, rfl, (HI7.out.base.grown hg8 (HI7.out.offs.1.off (by omega))).grown hg9 (HI7.out.offs.1.off (by omega)), ?_⟩
    exact row_dots (row_grown (row_grown HI7.out.row hg8 hrn) hg9 hrn) (fun y hy => (HI7.out.semi.good y hy).fit) (by have := HI7.out.small; omega)

set_option maxRecDepth 100000 in
set_option maxHeartbeats 8000000 in
theorem set_with (v : Value) (s : DS.S) (d : Dot) (w : World) (h : SetV w v s) (hok : DS.Ok s) (hd : DS.Good d) (hn : ¬ DS.Has s d) (hm : s.extra.length ≤ 100000) :
    Calls Try.prog 41 #[v, dotV d] w fun e w' => ∃ v', e = .returned v' ∧ SetV w' v' (DS.plus s d) ∧ Ext w w' := by
  have hsv := h
  obtain ⟨vb, ve, rfl, hb, he⟩ := h
  have hbv := hb
  have hev := he
  unfold dotV
  obtain ⟨d1, d2⟩ := d
  have hw0 : (w.alloc (.cells #[vb, ve] 29)).heap.size = w.heap.size + 1 := World.size_alloc _ _
  have hw1 : ((w.alloc (.cells #[vb, ve] 29)).alloc (.cells #[.int .i64 d1, .int .i64 d2] 26)).heap.size = w.heap.size + 2 := by rw [World.size_alloc, hw0]
  have hE : Ext w (((w.alloc (.cells #[vb, ve] 29)).alloc (.cells #[.int .i64 d1, .int .i64 d2] 26)).alloc (.cells #[.slice none 0 0, .slice none 0 0] 29)) := (((Ext.refl w).alloc _).alloc _).alloc _
  have hS : (((w.alloc (.cells #[vb, ve] 29)).alloc (.cells #[.int .i64 d1, .int .i64 d2] 26)).alloc (.cells #[.slice none 0 0, .slice none 0 0] 29)).heap.size = w.heap.size + 3 := by rw [World.size_alloc, hw1]
  have hT2 : Two (((w.alloc (.cells #[vb, ve] 29)).alloc (.cells #[.int .i64 d1, .int .i64 d2] 26)).alloc (.cells #[.slice none 0 0, .slice none 0 0] 29)) w.heap.size 29 vb ve := (Two.new w _ _ _).ext (((Ext.refl _).alloc _).alloc _)
  have hT3 : Two (((w.alloc (.cells #[vb, ve] 29)).alloc (.cells #[.int .i64 d1, .int .i64 d2] 26)).alloc (.cells #[.slice none 0 0, .slice none 0 0] 29)) (w.heap.size + 1) 26 (.int .i64 d1) (.int .i64 d2) := by
    rw [← hw0]
    exact (Two.new _ _ _ _).ext ((Ext.refl _).alloc _)
  have hT4 : Two (((w.alloc (.cells #[vb, ve] 29)).alloc (.cells #[.int .i64 d1, .int .i64 d2] 26)).alloc (.cells #[.slice none 0 0, .slice none 0 0] 29)) (w.heap.size + 2) 29 (.slice none 0 0) (.slice none 0 0) := by
    rw [← hw1]
    exact Two.new _ _ _ _
  obtain ⟨pb, cb, rfl, hb⟩ := hb
  obtain ⟨pe, ce, rfl, he⟩ := he
  go_enter Try.func41, Try.ntmps41
  go_wp2_with fail
  generalize (((w.alloc (.cells #[.slice pb s.base.length cb, .slice pe s.extra.length ce] 29)).alloc (.cells #[.int .i64 d1, .int .i64 d2] 26)).alloc (.cells #[.slice none 0 0, .slice none 0 0] 29)) = w0 at *
  refine wp_scope_once 0 (WithJ w (d1, d2) (DS.plus s (d1, d2))) (fun _ W => extraLen w.heap.size W) rfl ?pass ?first
  case pass => exact fun a W hJ => with_pass s d1 d2 w hok _ rfl a W hJ
  case first =>
    intro hpass
    have HP := Lib.hid hpass
    clear hpass
    have f1 := hT2.c0
    have f2 := hT2.c1
    have f3 := hT3.c0
    have f4 := hT3.c1
    go_wp2_with fail
    refine (set_find _ s (d1, d2) _ (hsv.ext hE) hok.sorted).mono ?_
    rintro e w1 ⟨i, hlo, rfl, g1⟩
    have hE1 := hE.trans g1
    have hS1 : w.heap.size + 3 ≤ w1.heap.size := by have := g1.size; omega
    have T2 := hT2.ext g1
    have T3 := hT3.ext g1
    have T4 := hT4.ext g1
    have hil : i ≤ s.extra.length := hlo.1
    have hins : s.extra.take i ++ (d1, d2) :: s.extra.drop i = DS.ins (d1, d2) s.extra := by
      refine (DS.ins_at _ _ i hil (fun m hm hmi => ?_) (fun m hm hmi => ?_)).symm
      · have := hlo.2.1 m hm hmi
        rw [← DS.cmpD_lt]; exact this
      · have := hlo.2.2 m hm hmi
        rw [← DS.cmpD_lt]; simp only at this; omega
    clear f1 f2 f3 f4 hE hT2 hT3 hT4 hS hw0 hw1 g1 hlo
    have f1 := T2.c1
    have f3 := T3.c0
    have f4 := T3.c1
    have hcl := fun W (hx : Ext w W) => dots_clone (.slice pe s.extra.length ce) s.extra W (hev.ext hx) (by omega)
    have HCL := Lib.hid hcl
    have HINS := Lib.hid hins
    clear hcl hins
    have hne : s.extra.length ≤ 100000 := hm
    have hins1 := fun v' vb' W (hrow : W.ownsRow (w.heap.size + 3) 26 2 v' s.extra.length (dotCells s.extra)) hbase hv hx => dots_insert v' i vb' (w.heap.size + 3) s.extra (d1, d2) W hil (by omega) hrow hbase hv hx
    have HI := Lib.hid hins1
    clear hins1
    have j1 : (w1.alloc (.cells #[.int .i64 d1, .int .i64 d2] 26)).cell? ⟨w.heap.size, 1, none⟩ = some (.slice pe s.extra.length ce) := ((Ext.refl w1).alloc _).cell f1
    go_wp2
    refine Code.wp_mono (Q := fun e a' W => e = .normal ∧ WithF w a' ∧ ∃ p3 c3, WithR w W (d1, d2) (.slice pb s.base.length cb) (.slice p3 (s.extra.length + 1) c3) (DS.ins (d1, d2) s.extra)) ?later ?now
    case now =>
      refine wp_region_noPanic ?_
      go_region_with (first
        | (go_at_call 55; refine (HCL.out _ hE1.drew).mono ?_; rintro e w2 ⟨v2, rfl, hrow2, gg2⟩; have g2 := (Ext.refl w1).drew.trans gg2; have U2 := T2.ext g2; have U3 := T3.ext g2; have U4 := T4.ext g2; have hE2 := hE1.trans g2; have hb2 := Nat.le_trans hS1 g2.size; have hrb := row_base hrow2 hS1; have hno : some w2.heap.size ≠ v2.ownBlock := (fun ej => absurd (hrow2.lt _ ej.symm).2 (Nat.lt_irrefl _)); have hrc := row_to hrb ((Ext.refl w2).alloc (.cells #[.int .i64 d1, .int .i64 d2] 26)); have k3 := U3.c0; have k4 := U3.c1)
        | (go_at_call 55; refine (HCL.out _ ((hE1.alloc _).drew)).mono ?_; rintro e w2 ⟨v2, rfl, hrow2, gg2⟩; have g2 := ((Ext.refl w1).alloc _).drew.trans gg2; have U2 := T2.ext g2; have U3 := T3.ext g2; have U4 := T4.ext g2; have hE2 := hE1.trans g2; have hv2 := (Two.new w1 26 (.int .i64 d1) (.int .i64 d2)).ext ((Ext.refl _).drew.trans gg2); have hb2 := Nat.le_trans hS1 g2.size; have hsz := (show ((w1.alloc (.cells #[.int .i64 d1, .int .i64 d2] 26)).drew).heap.size = w1.heap.size + 1 from World.size_alloc _ _); have hrb := row_base (base' := w.heap.size + 3) hrow2 (by rw [hsz]; omega); have hno : some w1.heap.size ≠ v2.ownBlock := (fun ej => by have h1 := (hrow2.lt _ ej.symm).1; rw [hsz] at h1; exact absurd h1 (Nat.not_succ_le_self _)))
        | (go_at_call 54; refine (HI.out _ w2.heap.size _ hrc (Nat.le_trans hb2 ((Ext.refl w2).alloc _).size) (Two.new w2 _ _ _) hno).mono ?_; rintro e w3 ⟨v3, rfl, hrow3, hg3⟩; obtain ⟨p3, c3, rfl⟩ := row_slice hrow3; have V2 := (U2.ext ((Ext.refl w2).alloc _)).grownV hrc hg3 (by omega); have V3 := (U3.ext ((Ext.refl w2).alloc _)).grownV hrc hg3 (by omega); have V4 := (U4.ext ((Ext.refl w2).alloc _)).grownV hrc hg3 (by omega); have hE3 := ext_grownV (hE2.alloc _) hrc hg3 (by omega); have l1 := V2.c1; have l2 := V2.f1)
        | (go_at_call 54; refine (HI.out _ w1.heap.size _ hrb hb2 hv2 hno).mono ?_; rintro e w3 ⟨v3, rfl, hrow3, hg3⟩; obtain ⟨p3, c3, rfl⟩ := row_slice hrow3; have V2 := U2.grownV hrb hg3 (by omega); have V3 := U3.grownV hrb hg3 (by omega); have V4 := U4.grownV hrb hg3 (by omega); have hE3 := ext_grownV hE2 hrb hg3 (by omega); have l1 := V2.c1; have l2 := V2.f1))
      all_goals
        refine NoPanic.normal ⟨rfl, ⟨_, _, _, _, _, _, _, _, _, _, _, _, _, _, _, _, _, _, _, _, _, _, _, _, _, _, _, _, _, _, _, _, _, _, _, _, _, _, _, _, _, _, _, _, _, _, _, _, _, _, _, _, _, rfl⟩, p3, c3, ?_⟩
        rw [← HINS.out]
        have hgs := grown_setCell w3 w.heap.size 1 (.slice p3 (s.extra.length + 1) c3)
        exact ⟨V2.set1 _, V3.grown hgs (by omega), V4.grown hgs (by omega), by rw [HINS.out, DS.ins_length] at *; exact row_grown hrow3 hgs (fun ej => by have := (hrow3.lt _ ej).1; omega), ext_grownBy hE3 hgs (Nat.le_refl _)⟩
    case later =>
      rintro e a' W ⟨rfl, ⟨p0, p1, p5, p6, p7, u8, u9, u10, u11, u12, u13, u14, u15, u16, u17, u18, u19, u20, u21, u22, u23, u24, u25, u26, u27, u28, u29, u30, u31, u32, u33, u34, u35, u36, u37, u38, u39, u40, u41, u42, u43, u44, u45, u46, u47, u48, u49, u50, u51, u52, u53, u54, u55, rfl⟩, p3, c3, hR⟩
      have f1 := hR.box.c0
      go_wp2_with fail
      refine (dots_clone _ s.base W (hbv.ext hR.ext) (by have := DS.ok_len hok.vec; omega)).mono ?_
      rintro e w4 ⟨v4, rfl, hrow4, g4⟩
      obtain ⟨p4, c4, rfl⟩ := row_slice hrow4
      have hWs : w.heap.size + 3 ≤ W.heap.size := by have := hR.out.lt; omega
      have b4 := hR.box.ext g4
      have l1 := b4.c0
      have l2 := b4.f0
      have hgs := grown_setCell w4 w.heap.size 0 (.slice p4 s.base.length c4)
      have b5 := b4.set0 (.slice p4 s.base.length c4)
      have d5 := (hR.dot.ext g4).grown hgs (by omega)
      have o5 := (hR.out.ext g4).grown hgs (by omega)
      have r5 := row_grown (row_to hR.row g4) hgs (fun ej => by have := (hR.row.lt _ ej).1; omega)
      have q5 := row_grown hrow4 hgs (fun ej => by have := (hrow4.lt _ ej).1; omega)
      have e5 := ext_grownBy (hR.ext.trans g4) hgs (Nat.le_refl _)
      have hsz5 : (w4.setCell ⟨w.heap.size, 0, none⟩ (.slice p4 s.base.length c4)).heap.size = w4.heap.size := World.size_setCell _ _ _
      have hnew : NewV W.heap.size (.slice p4 s.base.length c4) := row_new hrow4
      have hlt4 : ∀ k, Value.ownBlock (.slice p3 (s.extra.length + 1) c3) = some k → k < W.heap.size := fun k ek => (hR.row.lt k ek).2
      have hq5 : ∀ q n c, Value.slice p4 s.base.length c4 = .slice (some q) n c → q.block < w4.heap.size := fun q n c e => by
        injection e with e1
        subst e1
        exact (hrow4.lt q.block rfl).2
      generalize hw5 : (w4.setCell ⟨w.heap.size, 0, none⟩ (.slice p4 s.base.length c4)) = w5 at *
      have d1c := d5.c0
      have d2c := d5.c1
      go_wp2
      go_step3
      simp only [Exit.then]
      refine (by assumption : ∀ (a : Act) (w : World), Code.wp Try.prog _ _ a w → _) _ _ ?_
      refine HP.out _ _ ⟨w4.heap.size, .int .i64 d2, .slice p4 s.base.length c4, .slice p3 (s.extra.length + 1) c3, _, _, _, _, ⟨s.base, DS.ins (d1, d2) s.extra⟩, _, _, _, _, _, _, _, _, _, _, _, _, _, _, _, _, _, _, _, _, _, _, _, _, _, _, _, _, _, _, _, _, _, _, _, _, _, _, _, _, _, _, _, _, _, _, _, _, rfl, ?_⟩
      have g6 : Ext w5 (w5.alloc (.cells #[.int .i64 d1, .int .i64 d2] 26)) := (Ext.refl _).alloc _
      have hs4 := g4.size
      refine ⟨b5.ext g6, d5.ext g6, o5.ext g6, by rw [← hsz5]; exact Two.new _ _ _ _, ?_, ⟨?_, ?_, ?_⟩, ?_, ?_, ?_, e5.trans g6, DS.plus_semi hok hd hn, rfl, ?_⟩
      · exact (row_dots q5 (fun y hy => hok.vec.fit y hy) (by have := DS.ok_len hok.vec; omega)).ext g6
      · exact hnew.mono (by omega)
      · intro q n c e; have := hq5 q n c e; omega
      · intro k ek; exact hnew.off (hlt4 k ek)
      · exact row_to r5 g6
      · intro ek; have := hlt4 _ ek; omega
      · omega
      · simp only [DS.ins_length]; omega

end Go.Proofs.Ytdgjjlffdfpkcaa
