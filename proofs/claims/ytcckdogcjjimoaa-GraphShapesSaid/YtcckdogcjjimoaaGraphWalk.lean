/- The walk of ways. -/
import Derived.Test.YtcckdogcjjimoaaGraphWays
namespace Go.Proofs.Ytcckdogcjjimoaa
open Go.RowKit

theorem nearZ_nat (n : Nat) (adj : Nat → Nat → Bool) (h : Nat) : GR.nearZ n adj (h : Int) = GR.near n adj h := by
  unfold GR.nearZ
  rw [if_pos (Int.natCast_nonneg h), Int.toNat_natCast]

theorem ints_kept {W W' : World} {b o : Nat} {l : List Int} (h : IntsAt W b o l) (hb : W'.heap[b]? = W.heap[b]?) : IntsAt W' b o l := fun i hi => (World.cell?_of_block (a := ⟨b, o + i, none⟩) hb).trans (h i hi)
theorem heap_setCell_ne (W : World) (g o : Nat) (v : Value) {k : Nat} (hk : k < W.heap.size) (h : k ≠ g) : (W.setCell ⟨g, o, none⟩ v).heap[k]? = W.heap[k]? := (grown_setCell W g o v).block k hk (by intro e; injection e with e; exact h e)

/-- The state of a walk. -/
structure WaySt (w W : World) (F n : Nat) (adj : Nat → Nat → Bool) (p : Nat) (far : List Int) (queue : List Nat) (g off cap done : Nat) : Prop where
  fa : FarAt W F far
  que : QueueAt W (F + 1) g off cap queue
  inv : GR.Inv n adj p far queue done
  ext : Ext w W
  low : w.heap.size ≤ F
theorem WaySt.more {w W W' : World} {F n : Nat} {adj : Nat → Nat → Bool} {p : Nat} {far : List Int} {queue : List Nat} {g off cap done : Nat} (h : WaySt w W F n adj p far queue g off cap done) (he : Ext W W') : WaySt w W' F n adj p far queue g off cap done :=
  ⟨h.fa.block (he.block h.fa.lt), h.que.ext he, h.inv, h.ext.trans he, h.low⟩
def lenOf : Value → Nat
  | .slice _ n _ => n
  | _ => 0

set_option maxRecDepth 100000 in
set_option maxHeartbeats 4000000 in
theorem graph_ways (B n c : Nat) (adj : Nat → Nat → Bool) (pt : Option Addr) (p : Nat) (hp : p < n) (w : World) (h : GraphAt w B n adj pt c) :
    Calls Try.prog 33 #[.pointer (some ⟨B, 0, none⟩), .int .i64 p] w fun e w' => ∃ v, e = .returned v ∧ IntsV w' v ((List.range n).map (GR.dz n adj p)) ∧ Ext w w' := by
  obtain ⟨i0, hi, hz0, hz1, hz2⟩ := info_parts info_int
  have Hi := Lib.hid hi
  have hn1 := h.pos
  have hn2 := h.le
  have HG := Lib.hid h.gr
  have HA := Lib.hid h
  have c0 := h.two.c0
  clear hi h
  have d0 := ((Ext.refl w).alloc (.cells #[.int .i64 (-1)] 3)).cell c0
  have HP := Lib.hid (graph_peers B n (w.alloc (.cells #[.int .i64 (-1)] 3)) d0)
  have HR := Lib.hid (ints_repeat w.heap.size n (-1) (w.alloc (.cells #[.int .i64 (-1)] 3)) (alloc_cell w _ _ 0) hn1 hn2)
  have hs0 : (w.alloc (.cells #[.int .i64 (-1)] 3)).heap.size = w.heap.size + 1 := World.size_alloc _ _
  rw [hs0] at HR
  have hx0 : Ext w (w.alloc (.cells #[.int .i64 (-1)] 3)) := (Ext.refl w).alloc _
  clear hs0
  go_enter Try.func33, Try.ntmps33
  go_wp2_with fail
  refine HP.out.mono ?_
  rintro e w1 ⟨rfl, rfl⟩
  go_wp2_with fail
  refine HR.out.mono ?_
  rintro e w3 ⟨rfl, ⟨cur, hcb, hcs, hcl⟩, g3⟩
  have hF3 : FarAt w3 (w.heap.size + 1) (List.replicate n (-1)) := by
    unfold FarAt intCells
    rw [hcb, List.map_replicate, ← hcl]
  have hx3 := hx0.trans g3
  have d3 := hx3.cell c0
  have ht := graph_there B n p w3 d3
  rw [decide_eq_true ⟨Int.natCast_nonneg p, by omega⟩] at ht
  have HT := Lib.hid ht
  have e1 := hF3.get (i := p) (by simpa using hp)
  have e2 := hF3.frozen p
  have hF4 := hF3.set p 0
  have hx4 : Ext w (w3.setCell ⟨w.heap.size + 1, p, none⟩ (.int .i64 0)) := ext_grownBy hx3 (grown_setCell _ _ _ _) (by omega)
  have hpn : (p : Int) < (n : Int) := by omega
  have HF3 := Lib.hid hF3
  clear HR HP d0 hcb hcs hcl ht hF3
  go_wp2_with fail
  refine HT.out.mono ?_
  rintro e w5 ⟨rfl, rfl⟩
  go_wp2
  have hq0 : QueueAt ((w3.setCell ⟨w.heap.size + 1, p, none⟩ (.int .i64 0)).alloc (.cells #[.int .i64 (p : Int)] 3)) (w.heap.size + 1 + 1) w3.heap.size 0 1 [p] := by
    have hlt := HF3.out.lt
    have hnew := heap_alloc_new (w3.setCell ⟨w.heap.size + 1, p, none⟩ (.int .i64 0)) (.cells #[.int .i64 (p : Int)] 3)
    rw [World.size_setCell] at hnew
    exact ⟨by omega, by simp, by unfold maxLen; omega, _, hnew, fun _ => by simp, fun i hi => by
      have h0 : i = 0 := by simpa using hi
      subst h0
      rfl⟩
  have hst : WaySt w ((w3.setCell ⟨w.heap.size + 1, p, none⟩ (.int .i64 0)).alloc (.cells #[.int .i64 (p : Int)] 3)) (w.heap.size + 1) n adj p ((List.replicate n (-1)).set p 0) [p] w3.heap.size 0 1 0 :=
    ⟨hF4.block (heap_alloc_old _ _ hF4.lt), hq0, GR.Inv.start hp, hx4.alloc _, by omega⟩
  have HST := Lib.hid hst
  have hsz : (w3.setCell ⟨w.heap.size + 1, p, none⟩ (.int .i64 0)).heap.size = w3.heap.size := World.size_setCell _ _ _
  have HF0 : Hid (w.heap.size ≤ w.heap.size + 1) := Lib.hid (by omega)
  clear hst hq0 hF4 hx4 hx3 e1 e2 hx0 d3 HT HF3
  generalize hFF : w.heap.size + 1 = F at *
  go_loopw [6] (fun qv wr => ∃ (far : List Int) (queue : List Nat) (g off cap : Nat), qv = .slice (some ⟨g, off, none⟩) queue.length cap ∧ WaySt w wr F n adj p far queue g off cap 0) (fun qv W => lenOf qv + negs F n W)
  case atStart => exact ⟨_, [p], w3.heap.size, 0, 1, rfl, HST.out⟩
  case round =>
    clear HST
    obtain ⟨far, queue, g, off, cap, rfl, hI⟩ := hrel
    cases queue with
    | nil =>
      have hfin := hI.inv.done_ HG.out
      have heq := GR.Ways.eq HG.out hp hfin
      have hres := hI.fa.ints hI.inv.len hn2
      rw [heq] at hres
      have HRES := Lib.hid hres
      have HX := Lib.hid hI.ext
      clear hfin heq hres hI
      go_wp2
      go_ret
      exact ⟨_, rfl, HRES.out, HX.out⟩
    | cons hd rest =>
      have hhn := hI.inv.in_ hd (List.mem_cons_self ..)
      have a1 := hI.que.cell 0 (by simp)
      rw [Nat.add_zero] at a1
      have hlen1 : (hd :: rest).length = rest.length + 1 := rfl
      rw [hlen1]
      have hnear := graph_near B n c adj pt (hd : Int) wr (HA.out.ext hI.ext)
      rw [nearZ_nat] at hnear
      have HN := Lib.hid hnear
      have hnl := GR.near_length (n := n) (adj := adj) hd
      have hcap := hI.que.le
      rw [hlen1] at hcap
      have hmax := hI.que.max
      unfold maxLen at hmax
      have HI := Lib.hid hI
      clear hnear hI hlen1
      have a1' : wr.cell? ⟨g, off, none⟩ = some (.int .i64 (hd : Int)) := a1
      clear a1
      go_wp2_with fail
      refine HN.out.mono ?_
      rintro e w6 ⟨v6, rfl, hv6, g6, hnew6⟩
      obtain ⟨p6, c6, rfl, hl6, hv6⟩ := hv6
      have hmem : ∀ j (hj : j < (GR.near n adj hd).length), (GR.near n adj hd)[j] < n := fun j hj => (HG.out.lt _ _ ((GR.mem_near HG.out).1 (List.getElem_mem hj))).2
      have hold := fun (far : List Int) (rest : List Nat) (done : Nat) (I : GR.Inv n adj p far (hd :: rest) done) hj hq => GR.Inv.old I hj hq
      have hnew := fun (far : List Int) (rest : List Nat) (done : Nat) (I : GR.Inv n adj p far (hd :: rest) done) hj hq => GR.Inv.new HG.out I hj hq
      have hpop := fun (far : List Int) (rest : List Nat) (I : GR.Inv n adj p far (hd :: rest) (GR.near n adj hd).length) => GR.Inv.pop HG.out I
      have hdist := fun (far : List Int) (rest : List Nat) (done : Nat) (I : GR.Inv n adj p far (hd :: rest) done) => GR.dist_lt HG.out hp (I.val hd (I.seen hd (List.mem_cons_self ..)))
      rw [GR.ofN_length] at hl6
      have hv6' : (GR.near n adj hd).length = 0 ∨ ∃ b o, p6 = some ⟨b, o, none⟩ ∧ IntsAt w6 b o (GR.ofN (GR.near n adj hd)) := by rw [GR.ofN_length] at hv6; exact hv6
      rw [GR.ofN_length] at hnew6 ⊢
      clear hv6
      generalize GR.near n adj hd = L at *
      have HMEM := Lib.hid hmem
      have HOLD := Lib.hid hold
      have HNEW := Lib.hid hnew
      have HPOP := Lib.hid hpop
      have HDIST := Lib.hid hdist
      clear hmem hold hnew hpop hdist
      obtain ⟨b, o, hbo⟩ : ∃ b o, L.length = 0 ∨ (p6 = some ⟨b, o, none⟩ ∧ wr.heap.size ≤ b ∧ IntsAt w6 b o (GR.ofN L)) := by
        rcases hv6' with h0 | ⟨b, o, rfl, hs⟩
        · exact ⟨0, 0, .inl h0⟩
        · exact ⟨b, o, .inr ⟨rfl, hnew6 _ _ _ rfl, hs⟩⟩
      have hI6 := HI.out.more g6
      have hgq := HI.out.que.lt
      have hgF := HI.out.fa.lt
      have HI6 := Lib.hid hI6
      obtain ⟨N, hNL⟩ : ∃ N, L.length = N := ⟨_, rfl⟩
      rw [hNL] at hl6 hnl hbo ⊢
      have HNL := Lib.hid hNL
      have HBO := Lib.hid hbo
      obtain ⟨ms, hms⟩ : ∃ ms, lenOf (.slice (some ⟨g, off, none⟩) (rest.length + 1) cap) + negs F n wr = ms := ⟨_, rfl⟩
      have hmse : ms = rest.length + 1 + far.countP (· < 0) := by rw [← hms, negs_eq HI.out.fa HI.out.inv.len]; rfl
      have HMS := Lib.hid hmse
      have HMS0 := Lib.hid hms
      clear hI6 hv6' hnew6 hNL hbo hmse hms
      go_wp2
      go_loopw [6, 34] (fun qv i W => ∃ (j : Nat) (far2 : List Int) (rest2 : List Nat) (g2 off2 cap2 : Nat), j ≤ N ∧ i = .int .i64 j ∧ qv = .slice (some ⟨g2, off2, none⟩) (rest2.length + 1) cap2 ∧ WaySt w W F n adj p far2 (hd :: rest2) g2 off2 cap2 j ∧ Hid (N = 0 ∨ (g2 ≠ b ∧ b < W.heap.size ∧ F ≠ b ∧ IntsAt W b o (GR.ofN L))) ∧ Hid (rest2.length + 1 + far2.countP (· < 0) = ms)) (fun _ i _ => N - (intOf i).toNat)
      case atStart => exact ⟨0, far, rest, g, off, cap, by omega, rfl, rfl, HI6.out, Lib.hid (by
          by_cases h0 : N = 0
          · exact .inl h0
          · rcases HBO.out with h | ⟨_, h2, h3⟩
            · exact .inl h
            · exact .inr ⟨by omega, lt_of_cell (h3 0 (by rw [GR.ofN_length, HNL.out]; omega)), by omega, h3⟩), Lib.hid HMS.out.symm⟩
      case round =>
        obtain ⟨j, far2, rest2, g2, off2, cap2, hj, rfl, rfl, hI, HB, HM⟩ := hrel
        by_cases hjn : j < N
        · have hjl : j < L.length := by rw [HNL.out]; exact hjn
          obtain ⟨hgb, hbW, hFb, hat⟩ : g2 ≠ b ∧ b < wr.heap.size ∧ F ≠ b ∧ IntsAt wr b o (GR.ofN L) := by
            rcases HB.out with h | h
            · omega
            · exact h
          obtain ⟨rfl, hbw6, _⟩ : p6 = some ⟨b, o, none⟩ ∧ _ := by
            rcases HBO.out with h | h
            · omega
            · exact h
          have hqn := HMEM.out j hjl
          have b1 := hat j (by rw [GR.ofN_length]; exact hjl)
          have hel : (GR.ofN L)[j]'(by rw [GR.ofN_length]; exact hjl) = (L[j] : Int) := by unfold GR.ofN; rw [List.getElem_map]; rfl
          rw [hel] at b1
          have hold := HOLD.out far2 rest2 j hI.inv hjl
          have hnew := HNEW.out far2 rest2 j hI.inv hjl
          have hdd := HDIST.out far2 rest2 j hI.inv
          have hfl := hI.inv.len
          have b2 := hI.fa.get (i := L[j]) (by rw [hfl]; exact hqn)
          have b3 := hI.fa.get (i := hd) (by rw [hfl]; exact hhn)
          have b4 := hI.fa.frozen L[j]
          have b5 := hI.que.cell 0 (by simp)
          have b5' : wr.cell? ⟨g2, off2, none⟩ = some (.int .i64 (hd : Int)) := b5
          have hsn := hI.inv.seen hd (List.mem_cons_self ..)
          have hset := fun x => hI.fa.set L[j] x
          have hcp := fun x (hx : 0 ≤ x) (hq : GR.at_ far2 L[j] < 0) => GR.countP_set (far := far2) (q := L[j]) (by rw [hfl]; exact hqn) hq hx
          generalize L[j] = q at *
          generalize hqx : GR.at_ far2 q = x at *
          generalize hhy : GR.at_ far2 hd = y at *
          have HQX := Lib.hid hqx
          have HHY := Lib.hid hhy
          have HOL := Lib.hid hold
          have HNW := Lib.hid hnew
          have HSET := Lib.hid hset
          have HCP := Lib.hid hcp
          have HI := Lib.hid hI
          have HAT := Lib.hid hat
          have hqi : (q : Int) < (n : Int) := by omega
          have hhi : (hd : Int) < (n : Int) := by omega
          have hy2 : y < 64 := by omega
          have hcap2 := hI.que.le
          have hmax2 := hI.que.max
          rw [List.length_cons] at hcap2
          unfold maxLen at hmax2
          have hgF2 := hI.que.low
          have hgl2 := hI.que.lt
          have hFl := hI.fa.lt
          clear hel hold hnew hdd hfl hset hcp hqx hhy hI hat b5
          by_cases hx0 : x < 0
          · have f1 : decide (x < 0) = true := decide_eq_true hx0
            have HX0 := Lib.hid hx0
            have hq2 : QueueAt (wr.setCell ⟨F, q, none⟩ (.int .i64 (y + 1))) (F + 1) g2 off2 cap2 (hd :: rest2) := HI.out.que.block (heap_setCell_ne _ _ _ _ hgl2 (by omega))
            have hq3 := hq2.ext ((Ext.refl _).alloc (.cells #[.int .i64 (q : Int)] 3))
            have hfa3 := HSET.out (y + 1)
            have hx3 : Ext w (wr.setCell ⟨F, q, none⟩ (.int .i64 (y + 1))) := ext_grownBy HI.out.ext (grown_setCell _ _ _ _) HI.out.low
            have hat3 : IntsAt (wr.setCell ⟨F, q, none⟩ (.int .i64 (y + 1))) b o (GR.ofN L) := ints_kept HAT.out (heap_setCell_ne _ _ _ _ hbW (fun e => hFb e.symm))
            have hszw : (wr.setCell ⟨F, q, none⟩ (.int .i64 (y + 1))).heap.size = wr.heap.size := World.size_setCell _ _ _
            have hinv := HNW.out HX0.out
            have hcnt := HCP.out (y + 1) (by omega) HX0.out
            have hm6 : Hid ((rest2 ++ [q]).length + 1 + (far2.set q (y + 1)).countP (· < 0) = ms) := Lib.hid (by rw [← HM.out, List.length_append]; simp only [List.length_cons, List.length_nil]; omega)
            have hnew1 := cell_one_new (wr.setCell ⟨F, q, none⟩ (.int .i64 (y + 1))) (.int .i64 (q : Int)) 3
            rw [hszw] at hnew1
            have HNEW1 := Lib.hid hnew1
            have hlo : (natCells (hd :: rest2)).length = (rest2.length + 1) * 1 := by unfold natCells; rw [List.length_map, List.length_cons, Nat.mul_one]
            have HLO := Lib.hid hlo
            have hsz2 : ((wr.setCell ⟨F, q, none⟩ (.int .i64 (y + 1))).alloc (.cells #[.int .i64 (q : Int)] 3)).heap.size = wr.heap.size + 1 := by rw [World.size_alloc, hszw]
            have hfa4 : FarAt ((wr.setCell ⟨F, q, none⟩ (.int .i64 (y + 1))).alloc (.cells #[.int .i64 (q : Int)] 3)) F (far2.set q (y + 1)) := hfa3.block (heap_alloc_old _ _ hfa3.lt)
            have hat4 : IntsAt ((wr.setCell ⟨F, q, none⟩ (.int .i64 (y + 1))).alloc (.cells #[.int .i64 (q : Int)] 3)) b o (GR.ofN L) := hat3.ext ((Ext.refl _).alloc _)
            have hx4 := hx3.alloc (.cells #[.int .i64 (q : Int)] 3)
            have hlow := HI.out.low
            by_cases hr : rest2.length + 2 ≤ cap2
            · have hspare := hq3.spare (by rw [List.length_cons]; omega)
              have H6 : Hid (WaySt w (((wr.setCell ⟨F, q, none⟩ (.int .i64 (y + 1))).alloc (.cells #[.int .i64 (q : Int)] 3)).setCells g2 (off2 + (rest2.length + 1)) [.int .i64 (q : Int)]) F n adj p (far2.set q (y + 1)) (hd :: (rest2 ++ [q])) g2 off2 cap2 (j + 1) ∧ b < (((wr.setCell ⟨F, q, none⟩ (.int .i64 (y + 1))).alloc (.cells #[.int .i64 (q : Int)] 3)).setCells g2 (off2 + (rest2.length + 1)) [.int .i64 (q : Int)]).heap.size ∧ IntsAt (((wr.setCell ⟨F, q, none⟩ (.int .i64 (y + 1))).alloc (.cells #[.int .i64 (q : Int)] 3)).setCells g2 (off2 + (rest2.length + 1)) [.int .i64 (q : Int)]) b o (GR.ofN L)) := Lib.hid (by
                rw [setCells_one]
                exact ⟨⟨hfa4.block (heap_setCell_ne _ _ _ _ (by omega) (by omega)), hq3.push (by rw [List.length_cons]; omega) q, hinv, ext_grownBy hx4 (grown_setCell _ _ _ _) (by omega), hlow⟩, by rw [World.size_setCell]; omega, ints_kept hat4 (heap_setCell_ne _ _ _ _ (by omega) (fun e => hgb e.symm))⟩)
              have HQ3 := Lib.hid hq3
              have HSP := Lib.hid hspare
              clear hinv hcnt hnew1 hlo hfa4 hat4 hx4 hq3 hspare hq2 hfa3 hx3 hat3 hx0
              go_wp2_with (at_builtin; refine wpList_append_arg _ rfl (.tmp 53) (.tmp 55) 39 rfl 3 i0 (.int .i64 0) 1 8 Try.underlying39 Hi.out hz0 hz1 hz2 rfl (by decide) g2 off2 (rest2.length + 1) cap2 (natCells (hd :: rest2)) rfl HLO.out HQ3.out.olds ⟨wr.heap.size, 0, none⟩ 1 1 [.int .i64 (q : Int)] rfl rfl HNEW1.out (by simp [Value.oneCell']) (fun _ j hj => by
                have h0 : j = 0 := by simpa using hj
                subst h0
                rw [Nat.mul_one, Nat.add_zero]
                exact HSP.out) (by unfold maxLen; omega) (by have := HI.out.inv.count; rw [List.length_cons] at this; omega) (fun _ => ?_) (fun h => absurd h (by omega)))
              go_roundw
              case rel => exact ⟨j + 1, far2.set q (y + 1), rest2 ++ [q], g2, off2, cap2, by omega, by go_num, by rw [List.length_append]; rfl, H6.out.1, Lib.hid (.inr ⟨hgb, H6.out.2.1, hFb, H6.out.2.2⟩), hm6⟩
              case measure => simp [intOf]; omega
            · have HQ3 := Lib.hid hq3
              have H6 : Hid (FarAt ((wr.setCell ⟨F, q, none⟩ (.int .i64 (y + 1))).alloc (.cells #[.int .i64 (q : Int)] 3)) F (far2.set q (y + 1)) ∧ IntsAt ((wr.setCell ⟨F, q, none⟩ (.int .i64 (y + 1))).alloc (.cells #[.int .i64 (q : Int)] 3)) b o (GR.ofN L) ∧ GR.Inv n adj p (far2.set q (y + 1)) (hd :: rest2 ++ [q]) (j + 1) ∧ Ext w ((wr.setCell ⟨F, q, none⟩ (.int .i64 (y + 1))).alloc (.cells #[.int .i64 (q : Int)] 3))) := Lib.hid ⟨hfa4, hat4, hinv, hx4⟩
              have HS2 := Lib.hid hsz2
              clear hinv hcnt hnew1 hlo hfa4 hat4 hx4 hq3 hq2 hfa3 hx3 hat3 hx0 hsz2
              go_wp2_with (at_builtin; refine wpList_append_arg _ rfl (.tmp 53) (.tmp 55) 39 rfl 3 i0 (.int .i64 0) 1 8 Try.underlying39 Hi.out hz0 hz1 hz2 rfl (by decide) g2 off2 (rest2.length + 1) cap2 (natCells (hd :: rest2)) rfl HLO.out HQ3.out.olds ⟨wr.heap.size, 0, none⟩ 1 1 [.int .i64 (q : Int)] rfl rfl HNEW1.out (by simp [Value.oneCell']) (fun h => absurd h (by omega)) (by unfold maxLen; have := HI.out.inv.count; rw [List.length_cons] at this; omega) (by have := HI.out.inv.count; rw [List.length_cons] at this; omega) (fun h => absurd h (by omega)) (fun _ v' w' hrow hgrow => ?_); obtain ⟨g3, cap3, rfl, hq6, hb3⟩ := QueueAt.fresh (base := F + 1) (l := hd :: rest2) (x := q) hrow (by rw [HS2.out]; omega); have HQ6 := Lib.hid hq6; have HG6 := Lib.hid (grown_ext hgrow); rw [HS2.out] at hb3; clear hrow hgrow hq6)
              go_roundw
              case rel => exact ⟨j + 1, far2.set q (y + 1), rest2 ++ [q], g3, 0, cap3, by omega, by go_num, by rw [List.length_append]; rfl, ⟨H6.out.1.block (HG6.out.block H6.out.1.lt), HQ6.out, H6.out.2.2.1, H6.out.2.2.2.trans HG6.out, HI.out.low⟩, Lib.hid (.inr ⟨by omega, Nat.lt_of_lt_of_le (by rw [HS2.out]; omega) HG6.out.size, hFb, H6.out.2.1.ext HG6.out⟩), hm6⟩
              case measure => simp [intOf]; omega
          · have f1 : decide (x < 0) = false := decide_eq_false hx0
            have hol2 := Lib.hid (HOL.out (by omega))
            clear hx0
            go_wp2
            go_roundw
            case rel => exact ⟨j + 1, far2, rest2, g2, off2, cap2, by omega, by go_num, rfl, ⟨HI.out.fa, HI.out.que, hol2.out, HI.out.ext, HI.out.low⟩, HB, HM⟩
            case measure => simp [intOf]; omega
        · obtain rfl : j = N := by omega
          have hpop := HPOP.out far2 rest2 (by rw [HNL.out]; exact hI.inv)
          have hmeas : negs F n wr = far2.countP (· < 0) := negs_eq hI.fa hI.inv.len
          have HME := Lib.hid hmeas
          have hle := hI.que.le
          have hmx := hI.que.max
          rw [List.length_cons] at hle
          unfold maxLen at hmx
          obtain ⟨k, rfl⟩ : ∃ k, cap2 = k + 1 := ⟨cap2 - 1, by omega⟩
          by_cases hk : k = 0
          · subst hk
            have hr0 : rest2.length = 0 := by omega
            have hst : WaySt w wr F n adj p far2 rest2 g2 off2 0 0 := ⟨hI.fa, hI.que.last, hpop, hI.ext, hI.low⟩
            have HST := Lib.hid hst
            have HR0 := Lib.hid hr0
            rw [hr0]
            clear hpop hmeas hst hI hr0
            go_wp2
            go_roundw
            case rel => exact ⟨far2, rest2, g2, off2, 0, by rw [HR0.out], HST.out⟩
            case measure => rw [HMS0.out, HME.out, ← HM.out, HR0.out]; simp [lenOf]
          · have hst : WaySt w wr F n adj p far2 rest2 g2 (off2 + 1) k 0 := ⟨hI.fa, hI.que.tail, hpop, hI.ext, hI.low⟩
            have HST := Lib.hid hst
            have hbd4 : ¬ (k + 1 = 1) := by omega
            clear hpop hmeas hst hI
            go_wp2
            go_roundw
            case rel => exact ⟨far2, rest2, g2, off2 + 1, k, rfl, HST.out⟩
            case measure => rw [HMS0.out, HME.out, ← HM.out]; simp [lenOf]
end Go.Proofs.Ytcckdogcjjimoaa
