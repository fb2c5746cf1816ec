/- A step is taken: it is put behind the pending ones, it is done, and the fuse burns. -/
import Derived.Test.YtfegfbhchdfibaaDiskThere
import Derived.Deep.CutRange
namespace Go.Proofs.Ytfegfbhchdfibaa
open Go.RowKit

theorem info_step : (Try.prog.info? 67).map (fun i => (i.zero, i.size, i.bytes)) = some (some (.agg #[.nilFunc, .nilFunc]), 2, 16) := by kernel_rfl
theorem stepCells_app (xs : List (Value × Value)) (p : Value × Value) : stepCells (xs ++ [p]) = stepCells xs ++ [p.1, p.2] := by
  unfold stepCells
  rw [List.flatMap_append]
  rfl
theorem row_grown2 {W W' : World} {t : TypeId} {v : Value} {n k : Nat} {xs : List Value} (h : W.ownsRow 0 t 2 v n xs) (hg : W.grownBy W' (some k)) (hne : v.ownBlock ≠ some k) : W'.ownsRow 0 t 2 v n xs := row_grown h hg hne

theorem Turn.grownO {S : Nat → Prop} {w w' w'' : World} {r : Option Nat} (h : Turn S w w') (hg : w'.grownBy w'' r) (hk : ∀ k, r = some k → S k ∨ w.heap.size ≤ k) : Turn S w w'' := by
  cases r with
  | none => exact h.grown0 hg
  | some k => exact h.grown hg (hk k rfl)
theorem DCells.set3 {w : World} {B : Nat} {d : DK.D} {bs bn : Nat} {v : Value} (h : DCells w B d bs bn v) (v' : Value) : DCells (w.setCell ⟨B, 3, none⟩ v') B d bs bn v' := by
  unfold DCells World.setCell at *
  rw [Array.getElem?_modify, if_pos rfl, h]
  rfl
/-- How a disk stands behind a step that was put to the others and done. -/
theorem DiskIs.step {w w6 W W' : World} {S : Nat → Prop} {B : Nat} {d : DK.D} {bs bn : Nat} {v : Value} {st : DK.Step} {v1 v2 : Value} {g n cap : Nat} {xs : List (Value × Value)} (h : DiskIs w S B d bs bn v)
    (hxl : xs.length = d.todo.length) (hx : ∀ i (h : i < d.todo.length) (h' : i < xs.length), DoV w S xs[i].1 d.todo[i] ∧ TornV w S xs[i].2 d.todo[i])
    (hdo : DoV w S v1 st) (htorn : TornV w S v2 st) (hg : v.ownBlock = some g ∨ w.heap.size ≤ g) (ht : Turn S w w6) (hn : n = d.todo.length + 1)
    (hrow : w6.ownsRow 0 67 2 (.slice (some ⟨g, 0, none⟩) n cap) n (stepCells (xs ++ [(v1, v2)]))) (hcB : DCells w6 B d bs bn v) (hsafe : FilesAt w6 bs d.safe) (hnow : FilesAt w6 bn d.now)
    (hW : w6.setCell ⟨B, 3, none⟩ (.slice (some ⟨g, 0, none⟩) n cap) = W) (hf : FilesAt W' bn (DK.doS d.now st)) (hg' : W.grownBy W' (some bn)) :
    DiskIs W' (fun k => S k ∨ k = g) B { d with todo := d.todo ++ [st], now := DK.doS d.now st } bs bn (.slice (some ⟨g, 0, none⟩) n cap) ∧ Turn S w W' ∧ Grew w S (fun k => S k ∨ k = g) := by
  subst hn
  have hgS : S g ∨ w.heap.size ≤ g := hg.imp (h.sv g) id
  have hgB : g ≠ B := by
    rintro rfl
    rcases hg with h1 | h1
    · exact h.row h1
    · have := h.cells.lt; omega
  have hgbn : g ≠ bn := by
    rintro rfl
    rcases hg with h1 | h1
    · exact h.bn_row h1
    · have := h.now.lt; omega
  have hgbs : g ≠ bs := by
    rintro rfl
    rcases hg with h1 | h1
    · exact h.bs_row h1
    · have := h.safe.lt; omega
  have gB := grown_setCell w6 B 3 (.slice (some ⟨g, 0, none⟩) (d.todo.length + 1) cap)
  rw [hW] at gB
  have htW : Turn S w W := ht.grown gB (.inl h.sB)
  have htW' : Turn S w W' := htW.grown hg' (.inl h.sn)
  have hgr : Grew w S (fun k => S k ∨ k = g) := fun k hk => by
    rcases hk with h1 | rfl
    · exact .inl h1
    · exact hgS
  have hcW : DCells W B { d with todo := d.todo ++ [st], now := DK.doS d.now st } bs bn (.slice (some ⟨g, 0, none⟩) (d.todo.length + 1) cap) := by
    rw [← hW]
    unfold DCells World.setCell at *
    rw [Array.getElem?_modify, if_pos rfl, hcB]
    rfl
  refine ⟨?_, htW', hgr⟩
  constructor
  · exact (hg'.block B hcW.lt (by intro e; injection e with e; exact h.bn_ne e.symm)).trans hcW
  · exact (hsafe.grown gB h.bs_ne).grown hg' h.ne
  · exact hf
  · exact h.ne
  · refine ⟨xs ++ [(v1, v2)], by simp [hxl], ?_, ?_⟩
    · have k1 := row_grown hrow gB (by intro e; have e : g = B := by simpa [Value.ownBlock] using e
                                       exact hgB e)
      have k2 := row_grown k1 hg' (by intro e; have e : g = bn := by simpa [Value.ownBlock] using e
                                      exact hgbn e)
      simpa using k2
    · intro i hi hi'
      by_cases hlt : i < d.todo.length
      · have e1 : (d.todo ++ [st])[i]'hi = d.todo[i] := List.getElem_append_left hlt
        have e2 : (xs ++ [(v1, v2)])[i]'hi' = xs[i]'(by omega) := List.getElem_append_left (by omega)
        rw [e2]
        show DoV W' _ _ ((d.todo ++ [st])[i]'hi) ∧ TornV W' _ _ ((d.todo ++ [st])[i]'hi)
        rw [e1]
        exact ⟨(hx i hlt (by omega)).1.turn htW' hgr, (hx i hlt (by omega)).2.turn htW' hgr⟩
      · have hi2 : i = d.todo.length := by
          have : i < (d.todo ++ [st]).length := hi
          rw [List.length_append] at this
          simp at this
          omega
        subst hi2
        have e1 : (d.todo ++ [st])[d.todo.length]'hi = st := by rw [List.getElem_append_right (Nat.le_refl _)]; simp
        have e2 : (xs ++ [(v1, v2)])[d.todo.length]'hi' = (v1, v2) := by rw [List.getElem_append_right (by omega)]; simp [hxl]
        rw [e2]
        show DoV W' _ _ ((d.todo ++ [st])[d.todo.length]'hi) ∧ TornV W' _ _ ((d.todo ++ [st])[d.todo.length]'hi)
        rw [e1]
        exact ⟨hdo.turn htW' hgr, htorn.turn htW' hgr⟩
  · intro e
    have e : g = B := by simpa [Value.ownBlock] using e
    exact hgB e
  · exact .inl h.sB
  · exact .inl h.ss
  · exact .inl h.sn
  · intro k hk
    have e : g = k := by simpa [Value.ownBlock] using hk
    exact .inr e.symm
  · intro k hk
    rcases hk with h1 | rfl
    · exact Nat.lt_of_lt_of_le (h.lt k h1) htW'.size
    · rcases hrow.2 with ⟨_, h0⟩ | ⟨g', cap', cur, hv, _, hgg, _⟩
      · omega
      · injection hv with e1 e2 e3
        injection e1 with e1
        injection e1 with e1 _ _
        subst e1
        have k1 := (Array.getElem?_eq_some_iff.1 hgg).1
        have k2 := gB.size
        have k3 := hg'.size
        omega

set_option maxRecDepth 100000 in
set_option maxHeartbeats 2000000 in
theorem disk_took' {w : World} {S : Nat → Prop} {B : Nat} {d : DK.D} (h : DiskAt w S B d) (v1 v2 : Value) (st : DK.Step) (hdo : DoV w S v1 st) (htorn : TornV w S v2 st) (hv2 : v2 = .nilFunc ∨ ∃ F caps, v2 = .func (.func F) #[] caps) (hok : DK.okS d.now st) (hsm : DK.Small 1073741824 d.now) (htl : d.todo.length ≤ 1073741824) (hl : d.dead = false) (hfu : d.fused = true → 0 ≤ d.fuse ∧ d.fuse ≤ 9223372036854775807) :
    Calls Try.prog 29 #[.pointer (some ⟨B, 0, none⟩), .agg #[v1, v2]] w fun e w' => e = .returned (.int .i64 (if (DK.took d st).dead = true then 10 else 0)) ∧ ∃ S', DiskAt w' S' B (DK.took d st) ∧ Turn S w w' ∧ Grew w S S' := by
  obtain ⟨i0, hi, hz0, hz1, hz2⟩ := info_parts info_step
  have Hi := Lib.hid hi
  obtain ⟨q, hq⟩ : ∃ q, (DK.took d st).dead = q := ⟨_, rfl⟩
  rw [hq]
  have HQ := Lib.hid hq
  clear hq
  obtain ⟨bs, bn, v, h⟩ := h
  obtain ⟨xs, hxl, hrow, hx⟩ := h.steps
  obtain ⟨q0, cq0, rfl⟩ := row_slice hrow
  have HI := Lib.hid h
  have HX := Lib.hid hx
  have HXL := Lib.hid hxl
  have HDO := Lib.hid hdo
  have HTO := Lib.hid htorn
  have HOK := Lib.hid hok
  have HSM := Lib.hid hsm
  have HFU := Lib.hid hfu
  have HROW := Lib.hid hrow
  have HL := Lib.hid hl
  obtain ⟨F, caps, hv1, hcall, hfun⟩ := HDO.out
  have HFUN := Lib.hid hfun
  subst hv1
  obtain ⟨tn, htn⟩ : ∃ tn, d.todo.length = tn := ⟨_, rfl⟩
  rw [htn] at hrow HROW htl
  have HTN := Lib.hid htn
  rcases hv2 with rfl | ⟨F2, caps2, rfl⟩
  · have xA := (Ext.refl w).alloc (.cells #[.func (.func F) #[] caps, .nilFunc] 67)
    have c3 := xA.cell h.cells.c3
    have f3 := (xA.frozen h.cells.c3).trans (h.cells.fr 3)
    have hlt := h.cells.lt
    have hblk := xA.block h.cells.lt
    have b0 : (w.alloc (.cells #[.func (.func F) #[] caps, .nilFunc] 67)).cell? ⟨w.heap.size, 0, none⟩ = some (.func (.func F) #[] caps) := alloc_cell w _ _ 0
    have b1 : (w.alloc (.cells #[.func (.func F) #[] caps, .nilFunc] 67)).cell? ⟨w.heap.size, 1, none⟩ = some (.nilFunc) := alloc_cell w _ _ 1
    have hs1 : (w.alloc (.cells #[.func (.func F) #[] caps, .nilFunc] 67)).heap.size = w.heap.size + 1 := World.size_alloc _ _
    rw [htn] at c3
    have rB := h.row
    have rs := h.bs_row
    have rn := h.bn_row
    have rv := h.sv
    have rl := h.lt
    have cc := h.cells
    rw [htn] at rB rs rn rv cc
    have HRB := Lib.hid (And.intro rB (And.intro rs (And.intro rn (And.intro rv (And.intro rl cc)))))
    clear h hrow hx hxl hdo htorn hok hsm hfu hfun hl hi rB rs rn rv rl cc
    go_enter Try.func29, Try.ntmps29
    go_wp2
    generalize w.alloc (.cells #[.func (.func F) #[] caps, .nilFunc] 67) = w1 at *
    have hal : Ext w1 (w1.alloc (.cells #[.func (.func F) #[] caps, .nilFunc] 67)).drew := ((Ext.refl _).alloc _).drew
    have HR := Lib.hid (row_to HROW.out (xA.trans hal))
    have hnew : ∀ j u, [.func (.func F) #[] caps, .nilFunc][j]? = some u → (w1.alloc (.cells #[.func (.func F) #[] caps, .nilFunc] 67)).drew.cell? ((⟨w1.heap.size, 0, none⟩ : Addr).add j) = some u := World.news_of_block (w := (w1.alloc (.cells #[.func (.func F) #[] caps, .nilFunc] 67)).drew) (cs := #[.func (.func F) #[] caps, .nilFunc]) (heap_alloc_new w1 _)
    have HNEW := Lib.hid hnew
    have HXA := Lib.hid xA
    have HAL := Lib.hid hal
    have HSZ := Lib.hid hs1
    have HLT := Lib.hid hlt
    have HB0 := Lib.hid b0
    clear hnew xA hal hs1 hblk hlt
    go_cut [] from 5 to 14 (fun W => ∃ (w6 : World) (g cap : Nat), w6.ownsRow 0 67 2 (.slice (some ⟨g, 0, none⟩) (tn + 1) cap) (tn + 1) (stepCells xs ++ [.func (.func F) #[] caps, .nilFunc]) ∧ ((Value.slice q0 tn cq0).ownBlock = some g ∨ w.heap.size ≤ g) ∧ Turn S w w6 ∧ w6.heap[B]? = w.heap[B]? ∧ w6.heap[bs]? = w.heap[bs]? ∧ w6.heap[bn]? = w.heap[bn]? ∧ w6.cell? ⟨w.heap.size, 0, none⟩ = some (.func (.func F) #[] caps) ∧ W = w6.setCell ⟨B, 3, none⟩ (.slice (some ⟨g, 0, none⟩) (tn + 1) cap))
    case first =>
      have hold : ∀ (w6 : World) (k : Nat), (w1.alloc (.cells #[.func (.func F) #[] caps, .nilFunc] 67)).drew.grownBy w6 (Value.slice q0 tn cq0).ownBlock → k < w.heap.size → (Value.slice q0 tn cq0).ownBlock ≠ some k → w6.heap[k]? = w.heap[k]? := fun w6 k hg hk hne =>
        (hg.block k (by have h1 := HAL.out.size; have h2 := HSZ.out; omega) (fun e => hne e.symm)).trans (((HXA.out.trans HAL.out).block hk))
      have HOLD := Lib.hid hold
      have c3' := ((Ext.refl w1).alloc (.cells #[.func (.func F) #[] caps, .nilFunc] 67)).cell c3
      clear hold
      refine wp_region_noPanic ?_
      go_region_law (refine step_append_lies _ rfl (.tmp 9) (.tmp 11) 54 rfl 0 67 i0 (.agg #[.nilFunc, .nilFunc]) 2 16 Try.underlying54 Hi.out hz0 hz1 hz2 rfl (by decide) (.slice q0 tn cq0) tn (stepCells xs) (by simp [Act.eval]) HR.out ⟨w1.heap.size, 0, none⟩ 1 1 [.func (.func F) #[] caps, .nilFunc] (by simp [Act.eval]) rfl HNEW.out (by intro u hu; simp at hu; rcases hu with rfl | rfl <;> rfl) (by omega) (by unfold maxLen; omega) (by omega) (Nat.zero_le _) _ rfl ?_; intro g cap w6 hown hgrow hat hgl; have y1 := HOLD.out w6 B hgrow HLT.out HRB.out.1; have y2 := (World.cell?_of_block (a := ⟨B, 3, none⟩) y1).trans HRB.out.2.2.2.2.2.c3; have y3 := (World.frozen?_of_block (a := ⟨B, 3, none⟩) y1).trans (HRB.out.2.2.2.2.2.fr 3); have Y1 := Lib.hid y1; have HOWN := Lib.hid hown; have HGR := Lib.hid hgrow; have HAT := Lib.hid hat; clear y1 hown hgrow hat)
      all_goals
        refine NoPanic.normal ?_
        go_wp2
        go_meet
        refine ⟨w6, g, cap, HOWN.out, ?_, ?_, Y1.out, ?_, ?_, ?_, rfl⟩
        · rcases HAT.out with h1 | h1
          · exact .inl h1
          · right
            have h2 := HAL.out.size
            have h3 := HXA.out.size
            have h4 : (w1.alloc (.cells #[.func (.func F) #[] caps, .nilFunc] 67)).drew.heap.size = w1.heap.size + 1 := World.size_alloc _ _
            omega
        · exact (Turn.of_ext (HXA.out.trans HAL.out)).grownO HGR.out fun k hk => .inl (HRB.out.2.2.2.1 k hk)
        · exact HOLD.out w6 bs HGR.out HI.out.safe.lt HRB.out.2.1
        · exact HOLD.out w6 bn HGR.out HI.out.now.lt HRB.out.2.2.1
        · exact (World.cell?_of_block (a := ⟨w.heap.size, 0, none⟩) (HGR.out.block w.heap.size (by have h1 := HAL.out.size; have h2 := HSZ.out; omega) (fun e => by have h1 := HRB.out.2.2.2.2.1 _ (HRB.out.2.2.2.1 _ e.symm); omega))).trans (HAL.out.cell HB0.out)
    case rest =>
    obtain ⟨w6, g, cap, hown, hat, ht, k1, k2, k3, kb0, hW⟩ := hcut
    have hcB : DCells w6 B d bs bn (.slice q0 tn cq0) := k1.trans HRB.out.2.2.2.2.2
    have hsafe := HI.out.safe.block k2
    have hnow := HI.out.now.block k3
    have hcW := hcB.set3 (.slice (some ⟨g, 0, none⟩) (tn + 1) cap)
    have gB := grown_setCell w6 B 3 (.slice (some ⟨g, 0, none⟩) (tn + 1) cap)
    have hWn := hnow.grown gB HI.out.bn_ne
    have htW := ht.grown gB (.inl HI.out.sB)
    have kb := (World.cell?_of_block (a := ⟨w.heap.size, 0, none⟩) (gB.block w.heap.size (lt_of_cell kb0) (by intro e; injection e with e; have := HLT.out; omega))).trans kb0
    rw [← hW] at hcW hWn htW kb
    have c2 := hcW.c2
    have HFN := Lib.hid (HFUN.out wc.drew (fun k hk hn _ => htW.block k hk hn) bn d.now (hWn.ext (Ext.refl _).drew) HOK.out HSM.out)
    have d1 := fun (W' : World) (hg : wc.drew.grownBy W' (some bn)) => (World.cell?_of_block (a := ⟨w.heap.size, 0, none⟩) (hg.block w.heap.size (lt_of_cell kb) (by intro e; injection e with e; have := HI.out.now.lt; omega))).trans kb
    have d2 := fun (W' : World) (hg : wc.drew.grownBy W' (some bn)) => (World.cell?_of_block (a := ⟨B, 2, none⟩) (hg.block B hcW.lt (by intro e; injection e with e; exact HI.out.bn_ne e.symm))).trans c2
    have HD1 := Lib.hid d1
    have HD2 := Lib.hid d2
    have HST := Lib.hid (fun (W' : World) (hf : FilesAt W' bn (DK.doS d.now st)) (hg : wc.drew.grownBy W' (some bn)) => HI.out.step (v1 := .func (.func F) #[] caps) (v2 := .nilFunc) HXL.out HX.out HDO.out HTO.out (g := g) (n := tn + 1) (cap := cap) (by rw [htn]; exact hat) ht (by rw [htn]) (by rw [stepCells_app]; exact hown) (by rw [htn]; exact hcB) hsafe hnow hW.symm hf (grown_drew hg))
    clear hown hat ht k1 k2 k3 kb0 hcB hsafe hnow hcW gB hWn htW d1 d2 hW HR HNEW c3 f3 b0 b1
    go_wp2
    refine wp_region_noPanic ?_
    go_region_held3 (fun w' => w'.cell? ⟨w.heap.size, 0, none⟩ = some (.func (.func F) #[] caps) ∧ w'.cell? ⟨B, 2, none⟩ = some (.map (some bn))) (go_keep)
      (first | (refine HFN.out.mono ?_; rintro e w' ⟨rfl, hf, hg⟩; have e1 := HD1.out _ hg; have e2 := HD2.out _ hg; have HF := Lib.hid hf; have HG := Lib.hid hg; clear hf hg))
    refine NoPanic.normal ?_
    have hst := HST.out _ HF.out HG.out
    have hbu := disk_burns (d := { d with todo := d.todo ++ [st], now := DK.doS d.now st }) ⟨bs, bn, _, hst.1⟩ HL.out HFU.out
    have htk : DK.burn { d with todo := d.todo ++ [st], now := DK.doS d.now st } = DK.took d st := rfl
    rw [htk, HQ.out] at hbu
    have HBU := Lib.hid hbu
    have HTU := Lib.hid hst.2.1
    have HGW := Lib.hid hst.2.2
    have HSB := Lib.hid hst.1.sB
    have HSBw := Lib.hid HI.out.sB
    clear hst hbu htk HF HG HST HFN HD1 HD2 e1 e2 kb c2
    go_wp2_with fail
    refine HBU.out.mono ?_
    rintro e w9 ⟨rfl, hD9, hg9⟩
    have HD9 := Lib.hid hD9
    have HG9 := Lib.hid (HTU.out.grown hg9 (.inl HSBw.out))
    clear hD9 hg9
    cases q with
    | true =>
      go_wp2
      go_ret
      exact ⟨rfl, _, HD9.out, HG9.out, HGW.out⟩
    | false =>
      go_wp2
      go_ret
      exact ⟨rfl, _, HD9.out, HG9.out, HGW.out⟩
  · have xA := (Ext.refl w).alloc (.cells #[.func (.func F) #[] caps, .func (.func F2) #[] caps2] 67)
    have c3 := xA.cell h.cells.c3
    have f3 := (xA.frozen h.cells.c3).trans (h.cells.fr 3)
    have hlt := h.cells.lt
    have hblk := xA.block h.cells.lt
    have b0 : (w.alloc (.cells #[.func (.func F) #[] caps, .func (.func F2) #[] caps2] 67)).cell? ⟨w.heap.size, 0, none⟩ = some (.func (.func F) #[] caps) := alloc_cell w _ _ 0
    have b1 : (w.alloc (.cells #[.func (.func F) #[] caps, .func (.func F2) #[] caps2] 67)).cell? ⟨w.heap.size, 1, none⟩ = some (.func (.func F2) #[] caps2) := alloc_cell w _ _ 1
    have hs1 : (w.alloc (.cells #[.func (.func F) #[] caps, .func (.func F2) #[] caps2] 67)).heap.size = w.heap.size + 1 := World.size_alloc _ _
    rw [htn] at c3
    have rB := h.row
    have rs := h.bs_row
    have rn := h.bn_row
    have rv := h.sv
    have rl := h.lt
    have cc := h.cells
    rw [htn] at rB rs rn rv cc
    have HRB := Lib.hid (And.intro rB (And.intro rs (And.intro rn (And.intro rv (And.intro rl cc)))))
    clear h hrow hx hxl hdo htorn hok hsm hfu hfun hl hi rB rs rn rv rl cc
    go_enter Try.func29, Try.ntmps29
    go_wp2
    generalize w.alloc (.cells #[.func (.func F) #[] caps, .func (.func F2) #[] caps2] 67) = w1 at *
    have hal : Ext w1 (w1.alloc (.cells #[.func (.func F) #[] caps, .func (.func F2) #[] caps2] 67)).drew := ((Ext.refl _).alloc _).drew
    have HR := Lib.hid (row_to HROW.out (xA.trans hal))
    have hnew : ∀ j u, [.func (.func F) #[] caps, .func (.func F2) #[] caps2][j]? = some u → (w1.alloc (.cells #[.func (.func F) #[] caps, .func (.func F2) #[] caps2] 67)).drew.cell? ((⟨w1.heap.size, 0, none⟩ : Addr).add j) = some u := World.news_of_block (w := (w1.alloc (.cells #[.func (.func F) #[] caps, .func (.func F2) #[] caps2] 67)).drew) (cs := #[.func (.func F) #[] caps, .func (.func F2) #[] caps2]) (heap_alloc_new w1 _)
    have HNEW := Lib.hid hnew
    have HXA := Lib.hid xA
    have HAL := Lib.hid hal
    have HSZ := Lib.hid hs1
    have HLT := Lib.hid hlt
    have HB0 := Lib.hid b0
    clear hnew xA hal hs1 hblk hlt
    go_cut [] from 5 to 14 (fun W => ∃ (w6 : World) (g cap : Nat), w6.ownsRow 0 67 2 (.slice (some ⟨g, 0, none⟩) (tn + 1) cap) (tn + 1) (stepCells xs ++ [.func (.func F) #[] caps, .func (.func F2) #[] caps2]) ∧ ((Value.slice q0 tn cq0).ownBlock = some g ∨ w.heap.size ≤ g) ∧ Turn S w w6 ∧ w6.heap[B]? = w.heap[B]? ∧ w6.heap[bs]? = w.heap[bs]? ∧ w6.heap[bn]? = w.heap[bn]? ∧ w6.cell? ⟨w.heap.size, 0, none⟩ = some (.func (.func F) #[] caps) ∧ W = w6.setCell ⟨B, 3, none⟩ (.slice (some ⟨g, 0, none⟩) (tn + 1) cap))
    case first =>
      have hold : ∀ (w6 : World) (k : Nat), (w1.alloc (.cells #[.func (.func F) #[] caps, .func (.func F2) #[] caps2] 67)).drew.grownBy w6 (Value.slice q0 tn cq0).ownBlock → k < w.heap.size → (Value.slice q0 tn cq0).ownBlock ≠ some k → w6.heap[k]? = w.heap[k]? := fun w6 k hg hk hne =>
        (hg.block k (by have h1 := HAL.out.size; have h2 := HSZ.out; omega) (fun e => hne e.symm)).trans (((HXA.out.trans HAL.out).block hk))
      have HOLD := Lib.hid hold
      have c3' := ((Ext.refl w1).alloc (.cells #[.func (.func F) #[] caps, .func (.func F2) #[] caps2] 67)).cell c3
      clear hold
      refine wp_region_noPanic ?_
      go_region_law (refine step_append_lies _ rfl (.tmp 9) (.tmp 11) 54 rfl 0 67 i0 (.agg #[.nilFunc, .nilFunc]) 2 16 Try.underlying54 Hi.out hz0 hz1 hz2 rfl (by decide) (.slice q0 tn cq0) tn (stepCells xs) (by simp [Act.eval]) HR.out ⟨w1.heap.size, 0, none⟩ 1 1 [.func (.func F) #[] caps, .func (.func F2) #[] caps2] (by simp [Act.eval]) rfl HNEW.out (by intro u hu; simp at hu; rcases hu with rfl | rfl <;> rfl) (by omega) (by unfold maxLen; omega) (by omega) (Nat.zero_le _) _ rfl ?_; intro g cap w6 hown hgrow hat hgl; have y1 := HOLD.out w6 B hgrow HLT.out HRB.out.1; have y2 := (World.cell?_of_block (a := ⟨B, 3, none⟩) y1).trans HRB.out.2.2.2.2.2.c3; have y3 := (World.frozen?_of_block (a := ⟨B, 3, none⟩) y1).trans (HRB.out.2.2.2.2.2.fr 3); have Y1 := Lib.hid y1; have HOWN := Lib.hid hown; have HGR := Lib.hid hgrow; have HAT := Lib.hid hat; clear y1 hown hgrow hat)
      all_goals
        refine NoPanic.normal ?_
        go_wp2
        go_meet
        refine ⟨w6, g, cap, HOWN.out, ?_, ?_, Y1.out, ?_, ?_, ?_, rfl⟩
        · rcases HAT.out with h1 | h1
          · exact .inl h1
          · right
            have h2 := HAL.out.size
            have h3 := HXA.out.size
            have h4 : (w1.alloc (.cells #[.func (.func F) #[] caps, .func (.func F2) #[] caps2] 67)).drew.heap.size = w1.heap.size + 1 := World.size_alloc _ _
            omega
        · exact (Turn.of_ext (HXA.out.trans HAL.out)).grownO HGR.out fun k hk => .inl (HRB.out.2.2.2.1 k hk)
        · exact HOLD.out w6 bs HGR.out HI.out.safe.lt HRB.out.2.1
        · exact HOLD.out w6 bn HGR.out HI.out.now.lt HRB.out.2.2.1
        · exact (World.cell?_of_block (a := ⟨w.heap.size, 0, none⟩) (HGR.out.block w.heap.size (by have h1 := HAL.out.size; have h2 := HSZ.out; omega) (fun e => by have h1 := HRB.out.2.2.2.2.1 _ (HRB.out.2.2.2.1 _ e.symm); omega))).trans (HAL.out.cell HB0.out)
    case rest =>
    obtain ⟨w6, g, cap, hown, hat, ht, k1, k2, k3, kb0, hW⟩ := hcut
    have hcB : DCells w6 B d bs bn (.slice q0 tn cq0) := k1.trans HRB.out.2.2.2.2.2
    have hsafe := HI.out.safe.block k2
    have hnow := HI.out.now.block k3
    have hcW := hcB.set3 (.slice (some ⟨g, 0, none⟩) (tn + 1) cap)
    have gB := grown_setCell w6 B 3 (.slice (some ⟨g, 0, none⟩) (tn + 1) cap)
    have hWn := hnow.grown gB HI.out.bn_ne
    have htW := ht.grown gB (.inl HI.out.sB)
    have kb := (World.cell?_of_block (a := ⟨w.heap.size, 0, none⟩) (gB.block w.heap.size (lt_of_cell kb0) (by intro e; injection e with e; have := HLT.out; omega))).trans kb0
    rw [← hW] at hcW hWn htW kb
    have c2 := hcW.c2
    have HFN := Lib.hid (HFUN.out wc.drew (fun k hk hn _ => htW.block k hk hn) bn d.now (hWn.ext (Ext.refl _).drew) HOK.out HSM.out)
    have d1 := fun (W' : World) (hg : wc.drew.grownBy W' (some bn)) => (World.cell?_of_block (a := ⟨w.heap.size, 0, none⟩) (hg.block w.heap.size (lt_of_cell kb) (by intro e; injection e with e; have := HI.out.now.lt; omega))).trans kb
    have d2 := fun (W' : World) (hg : wc.drew.grownBy W' (some bn)) => (World.cell?_of_block (a := ⟨B, 2, none⟩) (hg.block B hcW.lt (by intro e; injection e with e; exact HI.out.bn_ne e.symm))).trans c2
    have HD1 := Lib.hid d1
    have HD2 := Lib.hid d2
    have HST := Lib.hid (fun (W' : World) (hf : FilesAt W' bn (DK.doS d.now st)) (hg : wc.drew.grownBy W' (some bn)) => HI.out.step (v1 := .func (.func F) #[] caps) (v2 := .func (.func F2) #[] caps2) HXL.out HX.out HDO.out HTO.out (g := g) (n := tn + 1) (cap := cap) (by rw [htn]; exact hat) ht (by rw [htn]) (by rw [stepCells_app]; exact hown) (by rw [htn]; exact hcB) hsafe hnow hW.symm hf (grown_drew hg))
    clear hown hat ht k1 k2 k3 kb0 hcB hsafe hnow hcW gB hWn htW d1 d2 hW HR HNEW c3 f3 b0 b1
    go_wp2
    refine wp_region_noPanic ?_
    go_region_held3 (fun w' => w'.cell? ⟨w.heap.size, 0, none⟩ = some (.func (.func F) #[] caps) ∧ w'.cell? ⟨B, 2, none⟩ = some (.map (some bn))) (go_keep)
      (first | (refine HFN.out.mono ?_; rintro e w' ⟨rfl, hf, hg⟩; have e1 := HD1.out _ hg; have e2 := HD2.out _ hg; have HF := Lib.hid hf; have HG := Lib.hid hg; clear hf hg))
    refine NoPanic.normal ?_
    have hst := HST.out _ HF.out HG.out
    have hbu := disk_burns (d := { d with todo := d.todo ++ [st], now := DK.doS d.now st }) ⟨bs, bn, _, hst.1⟩ HL.out HFU.out
    have htk : DK.burn { d with todo := d.todo ++ [st], now := DK.doS d.now st } = DK.took d st := rfl
    rw [htk, HQ.out] at hbu
    have HBU := Lib.hid hbu
    have HTU := Lib.hid hst.2.1
    have HGW := Lib.hid hst.2.2
    have HSB := Lib.hid hst.1.sB
    have HSBw := Lib.hid HI.out.sB
    clear hst hbu htk HF HG HST HFN HD1 HD2 e1 e2 kb c2
    go_wp2_with fail
    refine HBU.out.mono ?_
    rintro e w9 ⟨rfl, hD9, hg9⟩
    have HD9 := Lib.hid hD9
    have HG9 := Lib.hid (HTU.out.grown hg9 (.inl HSBw.out))
    clear hD9 hg9
    cases q with
    | true =>
      go_wp2
      go_ret
      exact ⟨rfl, _, HD9.out, HG9.out, HGW.out⟩
    | false =>
      go_wp2
      go_ret
      exact ⟨rfl, _, HD9.out, HG9.out, HGW.out⟩

theorem disk_took {w : World} {S : Nat → Prop} {B : Nat} {d : DK.D} (h : DiskAt w S B d) (v1 v2 : Value) (st : DK.Step) (hdo : DoV w S v1 st) (htorn : TornV w S v2 st) (hok : DK.okS d.now st) (hsm : DK.Small 1073741824 d.now) (htl : d.todo.length ≤ 1073741824) (hl : d.dead = false) (hfu : d.fused = true → 0 ≤ d.fuse ∧ d.fuse ≤ 9223372036854775807) :
    Calls Try.prog 29 #[.pointer (some ⟨B, 0, none⟩), .agg #[v1, v2]] w fun e w' => e = .returned (.int .i64 (if (DK.took d st).dead = true then 10 else 0)) ∧ ∃ S', DiskAt w' S' B (DK.took d st) ∧ Turn S w w' ∧ Grew w S S' :=
  disk_took' h v1 v2 st hdo htorn (by
    rcases htorn with ⟨_, e⟩ | ⟨_, F, caps, e, _⟩
    · exact .inl e
    · exact .inr ⟨F, caps, e⟩) hok hsm htl hl hfu
end Go.Proofs.Ytfegfbhchdfibaa
