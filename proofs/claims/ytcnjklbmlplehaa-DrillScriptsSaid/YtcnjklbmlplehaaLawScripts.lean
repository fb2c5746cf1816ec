/- The walk of DrillScripts. -/
import Derived.Test.YtcnjklbmlplehaaOpSame
import Derived.Test.YtcnjklbmlplehaaOpBare
import Derived.Test.YtcnjklbmlplehaaPathCheck
import Derived.Test.YtcnjklbmlplehaaGraphHas
import Derived.Test.YtcnjklbmlplehaaEdsOpen
import Derived.Test.YtcnjklbmlplehaaLinkPlain
namespace Go.Proofs.Ytcnjklbmlplehaa
open Go.RowKit

theorem bad_none {n : Nat} {l : List GR.Ed} (hok : GR.OkE n l) : l.any (GR.badE n) = false := by
  rw [List.any_eq_false]
  intro e he
  rw [hok e he]
  exact Bool.false_ne_true
theorem run_max2' {P : Program} (ts : Array TypeId) (t : TypeId) (x y : Int) (w : World) : (Builtin.max_ ts t #[.int .i64 x, .int .i64 y]).run P w = .ok (.int .i64 (max x y)) w := by
  simp only [Builtin.max_, List.foldlM_cons, List.foldlM_nil, Builtin.max2, Sem.run_bind, Sem.run_pure, Result.andThen]
  rw [show (if y > x then y else x) = max x y by split <;> omega]
set_option maxHeartbeats 2000000 in
theorem has_any (b off n c : Nat) (l : List GR.Ed) (p q : Int) (w : World) (hn : l.length = n) (hm : n ≤ maxLen) (hl : EdsAt w b off l) :
    Calls Try.prog 16 #[.slice (some ⟨b, off, none⟩) n c, .int .i64 p, .int .i64 q] w fun e w' => e = .returned (.bool (GR.hasE l p q)) ∧ Ext w w' := by
  obtain ⟨r, hr⟩ : ∃ r, GR.hasE l p q = r := ⟨_, rfl⟩
  rw [hr]
  have hm2 : (n : Int) ≤ 9223372036854775807 := by unfold maxLen at hm; omega
  clear hm
  have HL := Lib.hid hl
  have HN := Lib.hid hn
  have HR := Lib.hid hr
  clear hl hn hr
  go_enter Try.func16, Try.ntmps16
  go_wp2
  go_loopw [7] (fun i wr => ∃ (k : Nat), k ≤ n ∧ i = .int .i64 k ∧ GR.hasE (l.take k) p q = false ∧ Ext w wr) (fun i _ => n - (intOf i).toNat)
  case atStart => exact ⟨0, by omega, rfl, rfl, Ext.refl _⟩
  case round =>
    obtain ⟨k, hk, rfl, hs, hx⟩ := hrel
    by_cases hlt : k < n
    · have hkl : k < l.length := by rw [HN.out]; exact hlt
      have a1 := hx.cell (HL.out k hkl).1
      have a2 := hx.cell (HL.out k hkl).2
      have hnx := take_next l k hkl
      have hsn := hasE_next (l.take k) l[k] p q
      rw [← hnx, hs] at hsn
      have hmem : (((l[k].1 == p) && (l[k].2 == q)) || ((l[k].1 == q) && (l[k].2 == p))) = true → GR.hasE l p q = true := hasE_mem (List.getElem_mem hkl)
      generalize l[k] = d at *
      obtain ⟨b1, h1⟩ : ∃ b, (d.1 == p) = b := ⟨_, rfl⟩
      obtain ⟨b2, h2⟩ : ∃ b, (d.2 == q) = b := ⟨_, rfl⟩
      obtain ⟨b3, h3⟩ : ∃ b, (d.1 == q) = b := ⟨_, rfl⟩
      obtain ⟨b4, h4⟩ : ∃ b, (d.2 == p) = b := ⟨_, rfl⟩
      rw [h1, h2, h3, h4] at hsn hmem
      rw [HR.out] at hmem
      have HSN := Lib.hid hsn
      have HMEM := Lib.hid hmem
      clear hsn hmem hs hnx
      cases b1 <;> cases b2 <;> cases b3 <;> cases b4
      all_goals
        go_wp2
        first
          | (go_roundw
             case rel => exact ⟨k + 1, by omega, by go_num, HSN.out, hx⟩
             case measure => simp [intOf]; omega)
          | (go_ret
             exact ⟨by rw [HMEM.out rfl]; rfl, hx⟩)
    · obtain rfl : k = n := by omega
      rw [List.take_of_length_le (by rw [HN.out]; omega), HR.out] at hs
      subst hs
      go_wp2
      go_ret
      exact ⟨rfl, hx⟩


/-- Three numbers in a block. -/
def Three (W : World) (B : Nat) (x y z : Int) : Prop := W.heap[B]? = some (.cells #[.int .i64 x, .int .i64 y, .int .i64 z] 34 (0, 0))
theorem Three.cs {W : World} {B : Nat} {x y z : Int} (h : Three W B x y z) : W.cell? ⟨B, 0, none⟩ = some (.int .i64 x) ∧ W.cell? ⟨B, 1, none⟩ = some (.int .i64 y) ∧ W.cell? ⟨B, 2, none⟩ = some (.int .i64 z) := ⟨(cell_row h).1, (cell_row h).1, (cell_row h).1⟩

set_option maxRecDepth 100000 in
set_option maxHeartbeats 2000000 in
theorem law_scripts_no (q : Option Addr) (m c : Nat) (l : List GR.Ed) (peers seed kind many : Int) (w : World) (h : EdsW w q m l) (hmc : m ≤ c) (hbad : GR.checkG peers (l.take (min m 20)) ≠ 0) :
    Calls Try.prog 5 #[.agg #[.int .i64 seed, .int .i64 kind, .int .i64 many], .int .i64 peers, .slice q m c] w fun e w' => e = .returned (.bool true) ∧ Ext w w' := by
  obtain ⟨hl, hat⟩ := h
  obtain ⟨H, hH⟩ : ∃ H, min m 20 = H := ⟨_, rfl⟩
  have hHm : H ≤ m := by omega
  have hH20 : H ≤ 20 := by omega
  have hminE : min (m : Int) 20 = (H : Int) := by omega
  rw [hH] at hbad
  have hlen : (l.take H).length = H := by rw [List.length_take]; omega
  have hv : EdsV w (.slice q H c) (l.take H) := ⟨q, c, by rw [hlen], by omega, by
    rcases hat with h | ⟨b, off, hp, ha⟩
    · exact .inl (by rw [hlen]; omega)
    · exact .inr ⟨b, off, hp, fun i hi => by
        rw [List.getElem_take]
        exact ha i (by rw [hlen] at hi; omega)⟩⟩
  have hmin : ∀ w, (Builtin.min_ #[3, 3] 3 #[.int .i64 (m : Int), .int .i64 20]).run Try.prog w = .ok (.int .i64 (H : Int)) w := fun w => by rw [run_min2', hminE]
  have hx0 : Ext w (w.alloc (.cells #[.int .i64 seed, .int .i64 kind, .int .i64 many] 34)) := (Ext.refl w).alloc _
  have hT : Three (w.alloc (.cells #[.int .i64 seed, .int .i64 kind, .int .i64 many] 34)) w.heap.size seed kind many := heap_alloc_new w _
  have HO := Lib.hid (fun W (hW : Ext w W) => law_own (.slice q H c) (l.take H) W (hv.ext hW) (by rw [hlen]; omega))
  have hnew : ∀ v W, EdsV W v (l.take H) → Calls Try.prog 12 #[.int .i64 peers, v] W fun e w' => e = .returned (.tuple #[.pointer none, .int .i64 (GR.checkG peers (l.take H) : Nat)]) ∧ Ext W w' := by
    intro v W hv
    have hll : (l.take H).length ≤ 1000 := by omega
    unfold GR.checkG at hbad ⊢
    by_cases hp : peers < 1 ∨ 64 < peers
    · rw [if_pos hp]
      exact graph_new_count v peers W hp
    · rw [if_neg hp] at hbad ⊢
      by_cases hb : (l.take H).any (GR.badI peers) = true
      · rw [if_pos hb]
        obtain ⟨n, rfl⟩ := Int.eq_ofNat_of_zero_le (show 0 ≤ peers by omega)
        exact graph_new_bad v (l.take H) n W (by omega) (by omega) hv hll hb
      · rw [if_neg hb] at hbad
        exact absurd rfl hbad
  have HN := Lib.hid hnew
  obtain ⟨k, hk⟩ : ∃ k, GR.checkG peers (l.take H) = k := ⟨_, rfl⟩
  rw [hk] at HN hbad
  have f2 : ((k : Int) != 0) = true := by rw [bne_iff_ne]; omega
  have HLEN := Lib.hid hlen
  have HX0 := Lib.hid hx0
  obtain ⟨k0, k1, k2⟩ := hT.cs
  have hHc : H ≤ c := by omega
  have hHci : (H : Int) ≤ (c : Int) := by omega
  have hH0 : (0 : Int) ≤ (H : Int) := by omega
  clear hnew hk hbad hv hlen hat hl hH hx0 hT hminE
  go_enter Try.func5, Try.ntmps5
  go_wp2_with fail
  refine wp_region_noPanic ?_
  go_region
  all_goals
    refine NoPanic.normal ?_
    go_wp2_with fail
    refine (HO.out _ HX0.out.drew).mono ?_
    rintro e w1 ⟨v1, rfl, hR1⟩
    go_wp2_with fail
    refine (HN.out v1 w1 (row_eds hR1.row (by rw [HLEN.out]; omega))).mono ?_
    rintro e w2 ⟨rfl, g2⟩
    have x2 := HX0.out.drew.trans (hR1.ext.trans g2)
    go_wp2_with fail
    refine (drill_script_nil seed kind many w2).mono ?_
    rintro e w3 ⟨rfl, rfl⟩
    go_wp2_with fail
    refine (drill_awake w2).mono ?_
    rintro e w4 ⟨rfl, g4⟩
    go_wp2
    go_ret
    exact ⟨rfl, x2.trans g4⟩

theorem row_len {W : World} {base sz k n c : Nat} {e : TypeId} {p : Option Addr} {xs : List Value} (h : W.ownsRow base e sz (.slice p k c) n xs) : n ≤ c ∧ c ≤ maxLen := by
  rcases h.2 with ⟨e, h0⟩ | ⟨g, cap, cur, e, _, _, hn, hc, _⟩
  · subst h0
    injection e with _ _ e
    subst e
    exact ⟨Nat.le_refl _, Nat.zero_le _⟩
  · injection e with _ _ e
    subst e
    exact ⟨hn, hc⟩

set_option maxRecDepth 100000 in
set_option maxHeartbeats 4000000 in
theorem law_scripts_yes (q : Option Addr) (m c : Nat) (l : List GR.Ed) (n : Nat) (seed kind many : Int) (w : World) (h : EdsW w q m l) (hmc : m ≤ c) (hcm : c ≤ maxLen) (hn1 : 1 ≤ n) (hn2 : n ≤ 64) (hok : GR.OkE n (l.take (min m 20))) :
    Calls Try.prog 5 #[.agg #[.int .i64 seed, .int .i64 kind, .int .i64 many], .int .i64 n, .slice q m c] w fun e w' => e = .returned (.bool true) ∧ Ext w w' := by
  have HHAS : Hid (∀ (x y : Int) W, Ext w W → GR.hasE l x y = true → Calls Try.prog 16 #[.slice q m c, .int .i64 x, .int .i64 y] W fun e w' => e = .returned (.bool true) ∧ Ext W w') := Lib.hid (fun x y W hW hh => by
    rcases h.2 with h0 | ⟨b, off, rfl, ha⟩
    · have : l = [] := List.length_eq_zero_iff.1 (by rw [h.1]; exact h0)
      rw [this] at hh
      cases hh
    · have := has_any b off m c l x y W h.1 (by omega) (ha.ext hW)
      rw [hh] at this
      exact this)
  obtain ⟨hl, hat⟩ := h
  obtain ⟨H, hH⟩ : ∃ H, min m 20 = H := ⟨_, rfl⟩
  have hHm : H ≤ m := by omega
  have hH20 : H ≤ 20 := by omega
  have hminE : min (m : Int) 20 = (H : Int) := by omega
  rw [hH] at hok
  have hlen : (l.take H).length = H := by rw [List.length_take]; omega
  have hv : EdsV w (.slice q H c) (l.take H) := ⟨q, c, by rw [hlen], by omega, by
    rcases hat with h | ⟨b, off, hp, ha⟩
    · exact .inl (by rw [hlen]; omega)
    · exact .inr ⟨b, off, hp, fun i hi => by
        rw [List.getElem_take]
        exact ha i (by rw [hlen] at hi; omega)⟩⟩
  have hmin : ∀ w, (Builtin.min_ #[3, 3] 3 #[.int .i64 (m : Int), .int .i64 20]).run Try.prog w = .ok (.int .i64 (H : Int)) w := fun w => by rw [run_min2', hminE]
  have hx0 : Ext w (w.alloc (.cells #[.int .i64 seed, .int .i64 kind, .int .i64 many] 34)) := (Ext.refl w).alloc _
  have hT : Three (w.alloc (.cells #[.int .i64 seed, .int .i64 kind, .int .i64 many] 34)) w.heap.size seed kind many := heap_alloc_new w _
  have HO := Lib.hid (fun W (hW : Ext w W) => law_own (.slice q H c) (l.take H) W (hv.ext hW) (by rw [hlen]; omega))
  have hb := bad_none hok
  have HN := Lib.hid (fun v W (hv : EdsV W v (l.take H)) => graph_new_ok v (l.take H) n W hn1 hn2 hv (by omega) hb)
  have hgr := GR.gr_of hok
  -- what is drawn
  have hsc := fun mm B c pt W (hG : GraphAt W B n (GR.adjOf (l.take H)) pt c) => drill_script seed kind mm B n c (GR.adjOf (l.take H)) pt W hG
  have hopk := DR.script_ok hgr hn1 seed kind many
  have hhalf := DR.script_half (GR.near n (GR.adjOf (l.take H))) n seed kind many
  have hlen1 := DR.script_length (GR.near n (GR.adjOf (l.take H))) n seed kind many
  have hme := DR.many_eq many
  have hm4 := DR.many_le many
  have hscM := hsc many
  have hscH := hsc ((DR.many many : Nat) / 2)
  generalize DR.script (GR.near n (GR.adjOf (l.take H))) n seed kind many = S at *
  generalize DR.script (GR.near n (GR.adjOf (l.take H))) n seed kind ((DR.many many : Nat) / 2) = S2 at *
  generalize DR.many many = N at *
  have hlink : ∀ x ∈ S, 4 ≤ x.kind ∧ x.kind ≤ 7 → GR.hasE l x.peer x.to = true := fun x hx hk => by
    have hadj := (hopk x hx).link hk
    obtain ⟨e, he, hc⟩ := GR.adjOf_iff.1 hadj
    have hp := (hopk x hx).peer
    have ht := (hopk x hx).tow
    refine hasE_mem (List.mem_of_mem_take he) ?_
    rcases hc with ⟨h1, h2⟩ | ⟨h1, h2⟩
    · rw [show e.1 = x.peer by omega, show e.2 = x.to by omega]
      simp
    · rw [show e.1 = x.to by omega, show e.2 = x.peer by omega]
      simp
  have hmax : ∀ w, (Builtin.max_ #[3, 3] 3 #[.int .i64 many, .int .i64 0]).run Try.prog w = .ok (.int .i64 (max many 0)) w := fun w => run_max2' _ _ _ _ _
  have hmin2 : ∀ w, (Builtin.min_ #[3, 3] 3 #[.int .i64 (max many 0), .int .i64 400]).run Try.prog w = .ok (.int .i64 (N : Int)) w := fun w => by rw [run_min2', hme]
  obtain ⟨Q, hQ⟩ : ∃ Q, N / 2 = Q := ⟨_, rfl⟩
  have hQ2 : (N : Int) / 2 = (Q : Int) := by omega
  have hQN : Q ≤ N := by omega
  rw [hQ2] at hscH
  rw [hQ] at hhalf
  have HSM := Lib.hid hscM
  have HSH := Lib.hid hscH
  have HOPK := Lib.hid hopk
  have HLINK := Lib.hid hlink
  have HHALF := Lib.hid hhalf
  have HSL := Lib.hid hlen1
  have HLEN := Lib.hid hlen
  have HX0 := Lib.hid hx0
  obtain ⟨k0, k1, k2⟩ := hT.cs
  have hHc : H ≤ c := by omega
  have hHci : (H : Int) ≤ (c : Int) := by omega
  have hH0 : (0 : Int) ≤ (H : Int) := by omega
  clear hsc hscM hscH hopk hlink hhalf hlen1 hme hok hv hlen hat hl hH hx0 hT hminE hQ hcm hb hgr
  generalize GR.adjOf (l.take H) = adj at *
  go_enter Try.func5, Try.ntmps5
  go_wp2_with fail
  refine wp_region_noPanic ?_
  go_region
  all_goals
    refine NoPanic.normal ?_
    go_wp2_with fail
    refine (HO.out _ HX0.out.drew).mono ?_
    rintro e w1 ⟨v1, rfl, hR1⟩
    go_wp2_with fail
    refine (HN.out v1 w1 (row_eds hR1.row (by rw [HLEN.out]; omega))).mono ?_
    rintro e w2 ⟨v2, rfl, hv2, g2⟩
    obtain ⟨B, pt, cc, rfl, hG⟩ := hv2
    have x2 := HX0.out.drew.trans (hR1.ext.trans g2)
    clear g2 hR1 HO HN k0 k1 k2 hmin
    go_wp2_with fail
    refine (HSM.out B cc pt w2 hG).mono ?_
    rintro e w3 ⟨v3, rfl, R3⟩
    go_wp2_with fail
    refine (HSM.out B cc pt w3 (hG.ext R3.ext)).mono ?_
    rintro e w4 ⟨v4, rfl, R4⟩
    go_wp2_with fail
    refine (HSH.out B cc pt w4 ((hG.ext R3.ext).ext R4.ext)).mono ?_
    rintro e w5 ⟨v5, rfl, R5⟩
    have x5 := x2.trans (R3.ext.trans (R4.ext.trans R5.ext))
    obtain ⟨p3, c3, e3, hs3⟩ := ops_of_row R3.row
    obtain ⟨p4, c4, e4, hs4⟩ := ops_of_row R4.row
    obtain ⟨p5, c5, e5, hs5⟩ := ops_of_row R5.row
    have r3 := R3.row
    have r4 := R4.ext
    have r5 := R5.ext
    have hS2 : S2.length = Q := by rw [← HHALF.out, List.length_take, HSL.out]; omega
    rw [e3] at r3
    have hc3 := row_len r3
    rw [HSL.out] at e3 e4 hs3 hs4 hc3
    rw [hS2] at e5 hs5
    subst e3 e4 e5
    have hA3 : N = 0 ∨ ∃ b off, p3 = some ⟨b, off, none⟩ ∧ OpsAt w5 b off S := hs3.imp id fun ⟨b, off, hp, ha⟩ => ⟨b, off, hp, (ha.ext r4).ext r5⟩
    have hA4 : N = 0 ∨ ∃ b off, p4 = some ⟨b, off, none⟩ ∧ OpsAt w5 b off S := hs4.imp id fun ⟨b, off, hp, ha⟩ => ⟨b, off, hp, ha.ext r5⟩
    have HSAM1 := Lib.hid (ref_same34 p3 p4 N c3 c4 S w5 HSL.out hA3 hA4 (by omega))
    have hA3q : Q = 0 ∨ ∃ b off, p3 = some ⟨b, off, none⟩ ∧ OpsAt w5 b off S2 := by
      by_cases hQ0 : Q = 0
      · exact .inl hQ0
      · rcases hA3 with h | ⟨b, off, hp, ha⟩
        · omega
        · refine .inr ⟨b, off, hp, fun i hi j u hu => ?_⟩
          have hi' : i < S.length := by rw [HSL.out]; omega
          have he : S2[i] = S[i] := by
            have h1 : S2[i]? = S[i]? := by rw [← HHALF.out, List.getElem?_take, if_pos (by omega)]
            rw [List.getElem?_eq_getElem hi, List.getElem?_eq_getElem hi'] at h1
            injection h1
          rw [he] at hu
          exact ha i hi' j u hu
    have HSAM2 := Lib.hid (fun W (hW : Ext w5 W) => ref_same34 p3 p5 Q c3 c5 S2 W hS2 (hA3q.imp id fun ⟨b, off, hp, ha⟩ => ⟨b, off, hp, ha.ext hW⟩) (hs5.imp id fun ⟨b, off, hp, ha⟩ => ⟨b, off, hp, ha.ext hW⟩) (by omega))
    have HA3 := Lib.hid hA3
    have hQc : Q ≤ c3 := by omega
    have hQci : (Q : Int) ≤ (c3 : Int) := by omega
    have X5 := Lib.hid x5
    clear hA3 hA4 hA3q hs3 hs4 hs5 r3 r4 r5 R3 R4 R5 hG x2 x5 hc3 HSM HSH
    go_wp2_with fail
    refine HSAM1.out.mono ?_
    rintro e w6 ⟨rfl, g6⟩
    go_wp2_with fail
    refine (HSAM2.out w6 g6).mono ?_
    rintro e w7 ⟨rfl, g7⟩
    have HX7 := Lib.hid (g6.trans g7)
    clear g6 g7 HSAM1 HSAM2
    go_wp2
    go_loopw [16] (fun i W => ∃ (k : Nat), k ≤ N ∧ i = .int .i64 k ∧ Ext w5 W) (fun i _ => N - (intOf i).toNat)
    case atStart => exact ⟨0, by omega, rfl, HX7.out⟩
    case round =>
      clear HX7
      obtain ⟨k, hk, rfl, hx⟩ := hrel
      by_cases hlt : k < N
      · have hkl : k < S.length := by rw [HSL.out]; exact hlt
        obtain ⟨b, off, rfl, hat⟩ : ∃ b off, p3 = some ⟨b, off, none⟩ ∧ OpsAt w5 b off S := by
          rcases HA3.out with h | h
          · omega
          · exact h
        have hmem := List.getElem_mem hkl
        have hop := HOPK.out _ hmem
        have hli := HLINK.out _ hmem
        obtain ⟨⟨y0, y1, y2, y3, y4, y5, y6, y7⟩, hy⟩ : ∃ y, S[k] = y := ⟨_, rfl⟩
        obtain ⟨c0, c1, c2, c3, c4, c5, c6, c7⟩ := (hat.ext hx).cs hkl hy
        rw [hy] at hop hli
        have hxa := hx.alloc (.cells (opCells ⟨y0, y1, y2, y3, y4, y5, y6, y7⟩) 43)
        have HCH := Lib.hid (fun W => ref_check34 hn2 y0 y1 y2 y3 y4 y5 y6 y7 W hop)
        have hpe : y1 < (n : Int) := hop.peer.2
        have hway : y0 < 2 → ∃ s, y6 = DR.pathOf s := hop.way
        have hlk : 4 ≤ y0 ∧ y0 ≤ 7 → GR.hasE l y1 y2 = true := hli
        have HX := Lib.hid hxa
        have HX1 := Lib.hid hx
        have hor : (4 ≤ y0 ∧ y0 ≤ 7 ∧ ¬ y0 < 2) ∨ (¬ 4 ≤ y0 ∧ y0 < 2) ∨ (¬ 4 ≤ y0 ∧ ¬ y0 < 2) ∨ (4 ≤ y0 ∧ ¬ y0 ≤ 7 ∧ ¬ y0 < 2) := by omega
        clear hmem hop hli hat hy hxa hx
        rcases hor with ⟨ha, hb, hc⟩ | ⟨ha, hb⟩ | ⟨ha, hb⟩ | ⟨ha, hb, hc⟩
        · clear hway
          have hnew := OpAt.new wr ⟨y0, y1, y2, y3, y4, y5, y6, y7⟩
          have HNEW := Lib.hid hnew
          clear hnew
          go_wp2_with fail
          refine (HCH.out _).mono ?_
          rintro e w8 ⟨rfl, g8⟩
          have hb8 := HNEW.out.ext g8
          obtain ⟨k0, k1, k2, k3, k4, k5, k6, k7⟩ := hb8.cs
          have x8 := HX.out.trans g8
          have HB8 := Lib.hid hb8
          clear hb8 g8
          go_wp2_with fail
          refine (HHAS.out y1 y2 w8 (X5.out.trans x8) (hlk ⟨ha, hb⟩)).mono ?_
          rintro e w9 ⟨rfl, g9⟩
          obtain ⟨m0, m1, m2, m3, m4, m5, m6, m7⟩ := (HB8.out.ext g9).cs
          have x9 := x8.trans g9
          clear x8 g9
          have HX9 := Lib.hid x9
          clear x9
          go_wp2
          go_roundw
          case rel => exact ⟨k + 1, by omega, by go_num, HX9.out⟩
          case measure => simp [intOf]; omega
        · clear hlk
          have hnew := OpAt.new wr ⟨y0, y1, y2, y3, y4, y5, y6, y7⟩
          have HNEW := Lib.hid hnew
          clear hnew
          go_wp2_with fail
          refine (HCH.out _).mono ?_
          rintro e w8 ⟨rfl, g8⟩
          have hb8 := HNEW.out.ext g8
          obtain ⟨k0, k1, k2, k3, k4, k5, k6, k7⟩ := hb8.cs
          have x8 := HX.out.trans g8
          clear hb8 g8
          obtain ⟨ps, rfl⟩ := hway hb
          have HPC := Lib.hid (fun W => ref_check_path ps W)
          generalize DR.pathOf ps = y6 at *
          go_wp2_with fail
          refine (HPC.out w8).mono ?_
          rintro e w9 ⟨rfl, g9⟩
          have x9 := x8.trans g9
          clear x8 g9
          have HX9 := Lib.hid x9
          clear x9
          go_wp2
          go_roundw
          case rel => exact ⟨k + 1, by omega, by go_num, HX9.out⟩
          case measure => simp [intOf]; omega
        · clear hlk hway
          have hnew := OpAt.new wr ⟨y0, y1, y2, y3, y4, y5, y6, y7⟩
          have HNEW := Lib.hid hnew
          clear hnew
          go_wp2_with fail
          refine (HCH.out _).mono ?_
          rintro e w8 ⟨rfl, g8⟩
          have hb8 := HNEW.out.ext g8
          obtain ⟨k0, k1, k2, k3, k4, k5, k6, k7⟩ := hb8.cs
          have x8 := HX.out.trans g8
          clear hb8 g8
          have x9 := x8
          clear x8
          have HX9 := Lib.hid x9
          clear x9
          go_wp2
          go_roundw
          case rel => exact ⟨k + 1, by omega, by go_num, HX9.out⟩
          case measure => simp [intOf]; omega
        · clear hlk hway
          have hnew := OpAt.new wr ⟨y0, y1, y2, y3, y4, y5, y6, y7⟩
          have HNEW := Lib.hid hnew
          clear hnew
          go_wp2_with fail
          refine (HCH.out _).mono ?_
          rintro e w8 ⟨rfl, g8⟩
          have hb8 := HNEW.out.ext g8
          obtain ⟨k0, k1, k2, k3, k4, k5, k6, k7⟩ := hb8.cs
          have x8 := HX.out.trans g8
          clear hb8 g8
          have x9 := x8
          clear x8
          have HX9 := Lib.hid x9
          clear x9
          go_wp2
          go_roundw
          case rel => exact ⟨k + 1, by omega, by go_num, HX9.out⟩
          case measure => simp [intOf]; omega
      · obtain rfl : k = N := by omega
        have HX := Lib.hid (X5.out.trans hx)
        clear hx
        go_wp2_with fail
        refine (drill_awake _).mono ?_
        rintro e w8 ⟨rfl, g8⟩
        go_wp2
        go_ret
        exact ⟨rfl, HX.out.trans g8⟩

theorem law_scripts (q : Option Addr) (m c : Nat) (l : List GR.Ed) (peers : Int) (a : List Int) (w : World) (h : EdsW w q m l) (hmc : m ≤ c) (hcm : c ≤ maxLen) (ha : a.length = 3) :
    Calls Try.prog 5 #[.agg (a.map (Value.int .i64)).toArray, .int .i64 peers, .slice q m c] w fun e w' => e = .returned (.bool true) ∧ Ext w w' := by
  obtain ⟨x, y, z, rfl⟩ : ∃ x y z, a = [x, y, z] := by
    match a, ha with
    | [x, y, z], _ => exact ⟨x, y, z, rfl⟩
  by_cases hc : GR.checkG peers (l.take (min m 20)) = 0
  · obtain ⟨n, rfl, h1, h2, hok⟩ := GR.checkG_ok hc
    exact law_scripts_yes q m c l n x y z w h hmc hcm h1 h2 hok
  · exact law_scripts_no q m c l peers x y z w h hmc hc
end Go.Proofs.Ytcnjklbmlplehaa
