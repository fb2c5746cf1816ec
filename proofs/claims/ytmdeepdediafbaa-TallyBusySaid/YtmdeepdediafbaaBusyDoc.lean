/- What the document's Busy answers: the peers, each put where it stands. -/
import Derived.Test.YtmdeepdediafbaaBusyRef
namespace Go.Proofs.Ytmdeepdediafbaa
open Go.RowKit Go.Shelf

set_option maxRecDepth 100000 in
theorem busy_doc_nil (p : Option Addr) (c : Nat) (w : World) :
    Calls Try.prog 17 #[.slice p 0 c] w fun e w' => e = .returned (.slice none 0 0) ∧ w = w' := by
  go_enter Try.func17, Try.ntmps17
  go_wp2
  refine wp_loop_rounds 1 ?_
  rw [rounds_succ]
  go_wp2
  go_ret
  exact ⟨rfl, rfl⟩

set_option maxRecDepth 100000 in
set_option maxHeartbeats 8000000 in
theorem busy_doc_some (b off n c : Nat) (l : List Ev) (w : World) (hn : l.length = n) (hm : n ≤ 60) (hl : EvsAt w b off l) (hev : Events w (some ⟨b, off, none⟩) n l) :
    Calls Try.prog 17 #[.slice (some ⟨b, off, none⟩) n c] w fun e w' => ∃ v, e = .returned v ∧ IntsV w' v (Busy.sorted (Busy.lt (peersOf l)) (peersOf l)) ∧ Ext w w' := by
  obtain ⟨i0, hi, hz0, hz1, hz2⟩ := info_parts info_int
  have Hi := Lib.hid hi
  have HL := Lib.hid hl
  have HEV := Lib.hid hev
  have HN := Lib.hid hn
  clear hi hl hev hn
  obtain ⟨L, hL⟩ : ∃ L, Busy.lt (peersOf l) = L := ⟨_, rfl⟩
  have HLT := Lib.hid hL
  rw [hL]
  clear hL
  go_enter Try.func17, Try.ntmps17
  go_wp2
  go_loopw [3, 4] (fun ov i wr => ∃ (k : Nat), k ≤ n ∧ i = .int .i64 k ∧ IntsV wr ov (Busy.sorted L ((peersOf l).take k)) ∧ Ext w wr) (fun _ i _ => n - (intOf i).toNat)
  case atStart => exact ⟨0, by omega, rfl, ⟨none, 0, rfl, by simp [Busy.sorted], .inl rfl⟩, Ext.refl _⟩
  case round =>
    obtain ⟨k, hk, rfl, ⟨op, oc, rfl, hol, hov⟩, he⟩ := hrel
    by_cases hlt : k < n
    · have hkl : k < l.length := by rw [HN.out]; exact hlt
      have hr := he.cell (HL.out k hkl 2 (.int .i64 l[k].peer) rfl)
      have hnx := Busy.sorted_next L (peersOf l) k (by rw [peersOf_length]; exact hkl)
      rw [peersOf_at l k hkl] at hnx
      have hle : (Busy.sorted L ((peersOf l).take k)).length ≤ k := by
        rw [← HLT.out]
        exact Nat.le_trans (Busy.sorted_length _ _) (by rw [List.length_take]; omega)
      generalize l[k].peer = x at *
      generalize Busy.sorted L ((peersOf l).take k) = out at *
      have HNX := Lib.hid hnx
      have HOV := Lib.hid hov
      obtain ⟨m, hml⟩ : ∃ m, out.length = m := ⟨_, rfl⟩
      have HM := Lib.hid hml
      rw [hml] at hle hol
      rw [hml]
      clear hnx hov hml
      obtain ⟨w1, hw1⟩ : ∃ w1, w1 = wr := ⟨_, rfl⟩
      subst hw1
      go_wp2
      go_loopw [6, 7, 8] (fun nv bv i wr2 => ∃ (q : Nat) (nx : List Int) (inn : Bool), q ≤ m ∧ i = .int .i64 q ∧ bv = .bool inn ∧ InsInv L x out q nx inn ∧ wr2.ownsRow w1.heap.size 3 1 nv nx.length (intCells nx) ∧ Ext w1 wr2) (fun _ _ i _ => m - (intOf i).toNat)
      case atStart => exact ⟨0, [], false, by omega, rfl, rfl, InsInv.start _ _ _, World.ownsRow_nil _ _ _ _, Ext.refl _⟩
      case round =>
        obtain ⟨q, nx, inn, hq, rfl, rfl, hinv, hrow, he2⟩ := hrel
        by_cases hlq : q < m
        · have hqo : q < out.length := by rw [HM.out]; exact hlq
          obtain h0 | ⟨ob, oo, rfl, hcells⟩ := HOV.out
          · rw [HM.out] at h0; omega
          have a1 := he2.cell (hcells q hqo)
          have i1 : out[q] = x → InsInv L x out (q + 1) (nx ++ [out[q]]) true := hinv.here hqo
          have i2 : inn = true → InsInv L x out (q + 1) (nx ++ [out[q]]) true := fun h => by subst h; exact hinv.on hqo
          have i3 : inn = false → out[q] ≠ x → x ∈ out ∨ L x out[q] = false → InsInv L x out (q + 1) (nx ++ [out[q]]) false := fun h => by subst h; exact hinv.no hqo
          have i4 : inn = false → x ∉ out → L x out[q] = true → InsInv L x out (q + 1) ((nx ++ [x]) ++ [out[q]]) true := fun h hx h1 => by subst h; exact hinv.put hqo hx h1 (hinv.len (by omega) hx)
          have hl1 := hinv.1
          have hlt1 := Busy.lt_iff (peersOf l) x out[q]
          rw [HLT.out] at hlt1
          have hc1 : (peersOf l).count x ≤ n := Nat.le_trans List.count_le_length (by rw [peersOf_length, HN.out]; exact Nat.le_refl _)
          have hc2 : (peersOf l).count out[q] ≤ n := Nat.le_trans List.count_le_length (by rw [peersOf_length, HN.out]; exact Nat.le_refl _)
          have ho : ∀ z k, Calls Try.prog 27 #[.slice (some ⟨b, off, none⟩) n c, .int .i64 z] (wr.drewN k) fun e w' => e = .returned (.int .i64 ((peersOf l).count z : Nat)) ∧ w' = wr.drewN k :=
            fun z k => (busy_of _ n c l z _ (by omega) (HEV.out.ext ((he.trans he2).trans ((Ext.refl _).drewN _)))).mono fun _ _ h => ⟨h.1, h.2.symm⟩
          have hs : ∀ k, Calls Try.prog 28 #[.slice (some ⟨ob, oo, none⟩) m oc, .int .i64 x] (wr.drewN k) fun e w' => e = .returned (.bool (decide (x ∈ out))) ∧ w' = wr.drewN k :=
            fun k => by
              have := ref_has (.slice (some ⟨ob, oo, none⟩) out.length oc) out x (wr.drewN k) ⟨_, _, rfl, by rw [HM.out]; exact hol, .inr ⟨ob, oo, rfl, hcells.ext (he2.trans ((Ext.refl _).drewN _))⟩⟩
              rw [HM.out] at this
              exact this.mono fun _ _ h => ⟨h.1, h.2.symm⟩
          have a0 := hcells q hqo
          have hX := ho x
          have hY := ho out[q]
          clear ho
          obtain ⟨np, nc, rfl⟩ := ownsRow_isSlice hrow
          generalize out[q] = y at *
          generalize (peersOf l).count x = cx at *
          generalize (peersOf l).count y = cy at *
          have HX := Lib.hid hX
          have HY := Lib.hid hY
          clear hX hY hcells hinv HOV HL HEV
          cases inn
          · by_cases hd : y = x
            · have i5 := Lib.hid (i1 hd)
              have d1 : (y == x) = true := by rw [beq_iff_eq]; exact hd
              clear i1 i2 i3 i4 hlt1 hs hd
              go_wp2
              go_quiet (fail)
              have tok1 : True := trivial
              have b3 : w1.heap.size ≤ ((wr.drewN nq).alloc (.cells #[.int .i64 y] 3)).heap.size := by rw [World.size_alloc]; have := he2.size; show _ ≤ wr.heap.size + 1; omega
              go_wp2_with (at_builtin; have _t := tok1; refine wpList_append_own _ rfl _ _ 41 rfl w1.heap.size 3 i0 (.int .i64 0) 1 8 Try.underlying41 Hi.out hz0 hz1 hz2 rfl (by decide) _ _ _ rfl ((rows_ext hrow ((Ext.refl _).drewN _)).alloc _) ⟨(wr.drewN nq).heap.size, 0, none⟩ 1 1 [.int .i64 y] rfl rfl (cell_one_new _ _ _) (by simp [Value.oneCell']) (by unfold maxLen; omega) (by omega) b3 ?_; intro v' w4 hown' hgrow _; clear tok1)
              go_roundw
              case rel =>
                refine ⟨q + 1, nx ++ [y], true, by omega, by go_num, rfl, i5.out, ?_, ((he2.trans ((Ext.refl _).drewN _)).alloc _).grown hgrow (ownsRow_from hrow)⟩
                rw [intCells_app, List.length_append]
                exact hown'
              case measure => simp [intOf]; omega
            · have d1 : (y == x) = false := by rw [beq_eq_false_iff_ne]; exact hd
              by_cases hx : x ∈ out
              · have i5 := Lib.hid (i3 rfl hd (.inl hx))
                rw [decide_eq_true hx] at hs
                have HS := Lib.hid hs
                clear i1 i2 i3 i4 hlt1 hs hd hx
                rcases (show cy < cx ∨ (cx = cy ∧ x < y) ∨ (cx = cy ∧ ¬ x < y) ∨ cx < cy by omega) with h | ⟨h, h2⟩ | ⟨h, h2⟩ | h
                · have d2 : decide ((cx : Int) > (cy : Int)) = true := decide_eq_true (by omega)
                  have e2 : decide (cy < cx) = true := decide_eq_true (by omega)
                  go_wp2
                  go_quiet ((first | (go_at_call_of 27 (Value.int IntKind.i64 x); exact Calls.quiet_of_same (HX.out _)) | (go_at_call_of 27 (Value.int IntKind.i64 y); exact Calls.quiet_of_same (HY.out _)) | (go_at_call 28; exact Calls.quiet_of_same (HS.out _))))
                  have tok1 : True := trivial
                  have b3 : w1.heap.size ≤ ((wr.drewN nq).alloc (.cells #[.int .i64 y] 3)).heap.size := by rw [World.size_alloc]; have := he2.size; show _ ≤ wr.heap.size + 1; omega
                  go_wp2_with (at_builtin; have _t := tok1; refine wpList_append_own _ rfl _ _ 41 rfl w1.heap.size 3 i0 (.int .i64 0) 1 8 Try.underlying41 Hi.out hz0 hz1 hz2 rfl (by decide) _ _ _ rfl ((rows_ext hrow ((Ext.refl _).drewN _)).alloc _) ⟨(wr.drewN nq).heap.size, 0, none⟩ 1 1 [.int .i64 y] rfl rfl (cell_one_new _ _ _) (by simp [Value.oneCell']) (by unfold maxLen; omega) (by omega) b3 ?_; intro v' w4 hown' hgrow _; clear tok1)
                  go_roundw
                  case rel =>
                    refine ⟨q + 1, nx ++ [y], false, by omega, by go_num, rfl, i5.out, ?_, ((he2.trans ((Ext.refl _).drewN _)).alloc _).grown hgrow (ownsRow_from hrow)⟩
                    rw [intCells_app, List.length_append]
                    exact hown'
                  case measure => simp [intOf]; omega
                · have d2 : decide ((cx : Int) > (cy : Int)) = false := decide_eq_false (by omega)
                  have e2 : decide (cy < cx) = false := decide_eq_false (by omega)
                  have d3 : ((cx : Int) == (cy : Int)) = true := by rw [beq_iff_eq]; omega
                  have e3 : (cx == cy) = true := by rw [beq_iff_eq]; omega
                  have d4 : decide (x < y) = true := decide_eq_true h2
                  go_wp2
                  go_quiet ((first | (go_at_call_of 27 (Value.int IntKind.i64 x); exact Calls.quiet_of_same (HX.out _)) | (go_at_call_of 27 (Value.int IntKind.i64 y); exact Calls.quiet_of_same (HY.out _)) | (go_at_call 28; exact Calls.quiet_of_same (HS.out _))))
                  have tok1 : True := trivial
                  have b3 : w1.heap.size ≤ ((wr.drewN nq).alloc (.cells #[.int .i64 y] 3)).heap.size := by rw [World.size_alloc]; have := he2.size; show _ ≤ wr.heap.size + 1; omega
                  go_wp2_with (at_builtin; have _t := tok1; refine wpList_append_own _ rfl _ _ 41 rfl w1.heap.size 3 i0 (.int .i64 0) 1 8 Try.underlying41 Hi.out hz0 hz1 hz2 rfl (by decide) _ _ _ rfl ((rows_ext hrow ((Ext.refl _).drewN _)).alloc _) ⟨(wr.drewN nq).heap.size, 0, none⟩ 1 1 [.int .i64 y] rfl rfl (cell_one_new _ _ _) (by simp [Value.oneCell']) (by unfold maxLen; omega) (by omega) b3 ?_; intro v' w4 hown' hgrow _; clear tok1)
                  go_roundw
                  case rel =>
                    refine ⟨q + 1, nx ++ [y], false, by omega, by go_num, rfl, i5.out, ?_, ((he2.trans ((Ext.refl _).drewN _)).alloc _).grown hgrow (ownsRow_from hrow)⟩
                    rw [intCells_app, List.length_append]
                    exact hown'
                  case measure => simp [intOf]; omega
                · have d2 : decide ((cx : Int) > (cy : Int)) = false := decide_eq_false (by omega)
                  have e2 : decide (cy < cx) = false := decide_eq_false (by omega)
                  have d3 : ((cx : Int) == (cy : Int)) = true := by rw [beq_iff_eq]; omega
                  have e3 : (cx == cy) = true := by rw [beq_iff_eq]; omega
                  have d4 : decide (x < y) = false := decide_eq_false h2
                  go_wp2
                  go_quiet ((first | (go_at_call_of 27 (Value.int IntKind.i64 x); exact Calls.quiet_of_same (HX.out _)) | (go_at_call_of 27 (Value.int IntKind.i64 y); exact Calls.quiet_of_same (HY.out _)) | (go_at_call 28; exact Calls.quiet_of_same (HS.out _))))
                  have tok1 : True := trivial
                  have b3 : w1.heap.size ≤ ((wr.drewN nq).alloc (.cells #[.int .i64 y] 3)).heap.size := by rw [World.size_alloc]; have := he2.size; show _ ≤ wr.heap.size + 1; omega
                  go_wp2_with (at_builtin; have _t := tok1; refine wpList_append_own _ rfl _ _ 41 rfl w1.heap.size 3 i0 (.int .i64 0) 1 8 Try.underlying41 Hi.out hz0 hz1 hz2 rfl (by decide) _ _ _ rfl ((rows_ext hrow ((Ext.refl _).drewN _)).alloc _) ⟨(wr.drewN nq).heap.size, 0, none⟩ 1 1 [.int .i64 y] rfl rfl (cell_one_new _ _ _) (by simp [Value.oneCell']) (by unfold maxLen; omega) (by omega) b3 ?_; intro v' w4 hown' hgrow _; clear tok1)
                  go_roundw
                  case rel =>
                    refine ⟨q + 1, nx ++ [y], false, by omega, by go_num, rfl, i5.out, ?_, ((he2.trans ((Ext.refl _).drewN _)).alloc _).grown hgrow (ownsRow_from hrow)⟩
                    rw [intCells_app, List.length_append]
                    exact hown'
                  case measure => simp [intOf]; omega
                · have d2 : decide ((cx : Int) > (cy : Int)) = false := decide_eq_false (by omega)
                  have e2 : decide (cy < cx) = false := decide_eq_false (by omega)
                  have d3 : ((cx : Int) == (cy : Int)) = false := by rw [beq_eq_false_iff_ne]; omega
                  have e3 : (cx == cy) = false := by rw [beq_eq_false_iff_ne]; omega
                  go_wp2
                  go_quiet ((first | (go_at_call_of 27 (Value.int IntKind.i64 x); exact Calls.quiet_of_same (HX.out _)) | (go_at_call_of 27 (Value.int IntKind.i64 y); exact Calls.quiet_of_same (HY.out _)) | (go_at_call 28; exact Calls.quiet_of_same (HS.out _))))
                  have tok1 : True := trivial
                  have b3 : w1.heap.size ≤ ((wr.drewN nq).alloc (.cells #[.int .i64 y] 3)).heap.size := by rw [World.size_alloc]; have := he2.size; show _ ≤ wr.heap.size + 1; omega
                  go_wp2_with (at_builtin; have _t := tok1; refine wpList_append_own _ rfl _ _ 41 rfl w1.heap.size 3 i0 (.int .i64 0) 1 8 Try.underlying41 Hi.out hz0 hz1 hz2 rfl (by decide) _ _ _ rfl ((rows_ext hrow ((Ext.refl _).drewN _)).alloc _) ⟨(wr.drewN nq).heap.size, 0, none⟩ 1 1 [.int .i64 y] rfl rfl (cell_one_new _ _ _) (by simp [Value.oneCell']) (by unfold maxLen; omega) (by omega) b3 ?_; intro v' w4 hown' hgrow _; clear tok1)
                  go_roundw
                  case rel =>
                    refine ⟨q + 1, nx ++ [y], false, by omega, by go_num, rfl, i5.out, ?_, ((he2.trans ((Ext.refl _).drewN _)).alloc _).grown hgrow (ownsRow_from hrow)⟩
                    rw [intCells_app, List.length_append]
                    exact hown'
                  case measure => simp [intOf]; omega
              · rw [decide_eq_false hx] at hs
                have HS := Lib.hid hs
                rcases (show cy < cx ∨ (cx = cy ∧ x < y) ∨ (cx = cy ∧ ¬ x < y) ∨ cx < cy by omega) with h | ⟨h, h2⟩ | ⟨h, h2⟩ | h
                · have i5 := Lib.hid (i4 rfl hx (hlt1.2 (.inl h)))
                  have d2 : decide ((cx : Int) > (cy : Int)) = true := decide_eq_true (by omega)
                  have e2 : decide (cy < cx) = true := decide_eq_true (by omega)
                  clear i1 i2 i3 i4 hlt1 hs hd hx
                  go_wp2
                  go_quiet ((first | (go_at_call_of 27 (Value.int IntKind.i64 x); exact Calls.quiet_of_same (HX.out _)) | (go_at_call_of 27 (Value.int IntKind.i64 y); exact Calls.quiet_of_same (HY.out _)) | (go_at_call 28; exact Calls.quiet_of_same (HS.out _))))
                  have tok1 : True := trivial
                  have tok2 : True := trivial
                  have b3 : w1.heap.size ≤ ((wr.drewN nq).alloc (.cells #[.int .i64 x] 3)).heap.size := by rw [World.size_alloc]; have := he2.size; show _ ≤ wr.heap.size + 1; omega
                  have hws := b3
                  go_wp2_with (first | (at_builtin; have _t := tok1; refine wpList_append_own _ rfl _ _ 41 rfl w1.heap.size 3 i0 (.int .i64 0) 1 8 Try.underlying41 Hi.out hz0 hz1 hz2 rfl (by decide) _ _ _ rfl ((rows_ext hrow ((Ext.refl _).drewN _)).alloc _) ⟨(wr.drewN nq).heap.size, 0, none⟩ 1 1 [.int .i64 x] rfl rfl (cell_one_new _ _ _) (by simp [Value.oneCell']) (by unfold maxLen; omega) (by omega) b3 ?_; intro v1 w3 hown1 hgrow1 _; clear tok1; have a2 := (((he2.trans ((Ext.refl _).drewN _)).alloc _).grown hgrow1 (ownsRow_from hrow)).cell a0) | (at_builtin; have _t := tok2; refine wpList_append_own _ rfl _ _ 41 rfl w1.heap.size 3 i0 (.int .i64 0) 1 8 Try.underlying41 Hi.out hz0 hz1 hz2 rfl (by decide) _ _ _ rfl (hown1.alloc _) ⟨w3.heap.size, 0, none⟩ 1 1 [.int .i64 y] rfl rfl (cell_one_new _ _ _) (by simp [Value.oneCell']) (by unfold maxLen; omega) (by omega) (Nat.le_trans hws (Nat.le_trans hgrow1.size (by rw [World.size_alloc]; exact Nat.le_succ _))) ?_; intro v' w4 hown' hgrow _; clear tok2))
                  go_roundw
                  case rel =>
                    refine ⟨q + 1, (nx ++ [x]) ++ [y], true, by omega, by go_num, rfl, i5.out, ?_, ((((he2.trans ((Ext.refl _).drewN _)).alloc _).grown hgrow1 (ownsRow_from hrow)).alloc _).grown hgrow (ownsRow_from hown1)⟩
                    rw [intCells_app, intCells_app, List.length_append, List.length_append]
                    exact hown'
                  case measure => simp [intOf]; omega
                · have i5 := Lib.hid (i4 rfl hx (hlt1.2 (.inr ⟨h, h2⟩)))
                  have d2 : decide ((cx : Int) > (cy : Int)) = false := decide_eq_false (by omega)
                  have e2 : decide (cy < cx) = false := decide_eq_false (by omega)
                  have d3 : ((cx : Int) == (cy : Int)) = true := by rw [beq_iff_eq]; omega
                  have e3 : (cx == cy) = true := by rw [beq_iff_eq]; omega
                  have d4 : decide (x < y) = true := decide_eq_true h2
                  clear i1 i2 i3 i4 hlt1 hs hd hx
                  go_wp2
                  go_quiet ((first | (go_at_call_of 27 (Value.int IntKind.i64 x); exact Calls.quiet_of_same (HX.out _)) | (go_at_call_of 27 (Value.int IntKind.i64 y); exact Calls.quiet_of_same (HY.out _)) | (go_at_call 28; exact Calls.quiet_of_same (HS.out _))))
                  have tok1 : True := trivial
                  have tok2 : True := trivial
                  have b3 : w1.heap.size ≤ ((wr.drewN nq).alloc (.cells #[.int .i64 x] 3)).heap.size := by rw [World.size_alloc]; have := he2.size; show _ ≤ wr.heap.size + 1; omega
                  have hws := b3
                  go_wp2_with (first | (at_builtin; have _t := tok1; refine wpList_append_own _ rfl _ _ 41 rfl w1.heap.size 3 i0 (.int .i64 0) 1 8 Try.underlying41 Hi.out hz0 hz1 hz2 rfl (by decide) _ _ _ rfl ((rows_ext hrow ((Ext.refl _).drewN _)).alloc _) ⟨(wr.drewN nq).heap.size, 0, none⟩ 1 1 [.int .i64 x] rfl rfl (cell_one_new _ _ _) (by simp [Value.oneCell']) (by unfold maxLen; omega) (by omega) b3 ?_; intro v1 w3 hown1 hgrow1 _; clear tok1; have a2 := (((he2.trans ((Ext.refl _).drewN _)).alloc _).grown hgrow1 (ownsRow_from hrow)).cell a0) | (at_builtin; have _t := tok2; refine wpList_append_own _ rfl _ _ 41 rfl w1.heap.size 3 i0 (.int .i64 0) 1 8 Try.underlying41 Hi.out hz0 hz1 hz2 rfl (by decide) _ _ _ rfl (hown1.alloc _) ⟨w3.heap.size, 0, none⟩ 1 1 [.int .i64 y] rfl rfl (cell_one_new _ _ _) (by simp [Value.oneCell']) (by unfold maxLen; omega) (by omega) (Nat.le_trans hws (Nat.le_trans hgrow1.size (by rw [World.size_alloc]; exact Nat.le_succ _))) ?_; intro v' w4 hown' hgrow _; clear tok2))
                  go_roundw
                  case rel =>
                    refine ⟨q + 1, (nx ++ [x]) ++ [y], true, by omega, by go_num, rfl, i5.out, ?_, ((((he2.trans ((Ext.refl _).drewN _)).alloc _).grown hgrow1 (ownsRow_from hrow)).alloc _).grown hgrow (ownsRow_from hown1)⟩
                    rw [intCells_app, intCells_app, List.length_append, List.length_append]
                    exact hown'
                  case measure => simp [intOf]; omega
                · have i5 := Lib.hid (i3 rfl hd (.inr (Bool.eq_false_iff.2 fun hh => by have := hlt1.1 hh; omega)))
                  have d2 : decide ((cx : Int) > (cy : Int)) = false := decide_eq_false (by omega)
                  have e2 : decide (cy < cx) = false := decide_eq_false (by omega)
                  have d3 : ((cx : Int) == (cy : Int)) = true := by rw [beq_iff_eq]; omega
                  have e3 : (cx == cy) = true := by rw [beq_iff_eq]; omega
                  have d4 : decide (x < y) = false := decide_eq_false h2
                  clear i1 i2 i3 i4 hlt1 hs hd hx
                  go_wp2
                  go_quiet ((first | (go_at_call_of 27 (Value.int IntKind.i64 x); exact Calls.quiet_of_same (HX.out _)) | (go_at_call_of 27 (Value.int IntKind.i64 y); exact Calls.quiet_of_same (HY.out _)) | (go_at_call 28; exact Calls.quiet_of_same (HS.out _))))
                  have tok1 : True := trivial
                  have b3 : w1.heap.size ≤ ((wr.drewN nq).alloc (.cells #[.int .i64 y] 3)).heap.size := by rw [World.size_alloc]; have := he2.size; show _ ≤ wr.heap.size + 1; omega
                  go_wp2_with (at_builtin; have _t := tok1; refine wpList_append_own _ rfl _ _ 41 rfl w1.heap.size 3 i0 (.int .i64 0) 1 8 Try.underlying41 Hi.out hz0 hz1 hz2 rfl (by decide) _ _ _ rfl ((rows_ext hrow ((Ext.refl _).drewN _)).alloc _) ⟨(wr.drewN nq).heap.size, 0, none⟩ 1 1 [.int .i64 y] rfl rfl (cell_one_new _ _ _) (by simp [Value.oneCell']) (by unfold maxLen; omega) (by omega) b3 ?_; intro v' w4 hown' hgrow _; clear tok1)
                  go_roundw
                  case rel =>
                    refine ⟨q + 1, nx ++ [y], false, by omega, by go_num, rfl, i5.out, ?_, ((he2.trans ((Ext.refl _).drewN _)).alloc _).grown hgrow (ownsRow_from hrow)⟩
                    rw [intCells_app, List.length_append]
                    exact hown'
                  case measure => simp [intOf]; omega
                · have i5 := Lib.hid (i3 rfl hd (.inr (Bool.eq_false_iff.2 fun hh => by have := hlt1.1 hh; omega)))
                  have d2 : decide ((cx : Int) > (cy : Int)) = false := decide_eq_false (by omega)
                  have e2 : decide (cy < cx) = false := decide_eq_false (by omega)
                  have d3 : ((cx : Int) == (cy : Int)) = false := by rw [beq_eq_false_iff_ne]; omega
                  have e3 : (cx == cy) = false := by rw [beq_eq_false_iff_ne]; omega
                  clear i1 i2 i3 i4 hlt1 hs hd hx
                  go_wp2
                  go_quiet ((first | (go_at_call_of 27 (Value.int IntKind.i64 x); exact Calls.quiet_of_same (HX.out _)) | (go_at_call_of 27 (Value.int IntKind.i64 y); exact Calls.quiet_of_same (HY.out _)) | (go_at_call 28; exact Calls.quiet_of_same (HS.out _))))
                  have tok1 : True := trivial
                  have b3 : w1.heap.size ≤ ((wr.drewN nq).alloc (.cells #[.int .i64 y] 3)).heap.size := by rw [World.size_alloc]; have := he2.size; show _ ≤ wr.heap.size + 1; omega
                  go_wp2_with (at_builtin; have _t := tok1; refine wpList_append_own _ rfl _ _ 41 rfl w1.heap.size 3 i0 (.int .i64 0) 1 8 Try.underlying41 Hi.out hz0 hz1 hz2 rfl (by decide) _ _ _ rfl ((rows_ext hrow ((Ext.refl _).drewN _)).alloc _) ⟨(wr.drewN nq).heap.size, 0, none⟩ 1 1 [.int .i64 y] rfl rfl (cell_one_new _ _ _) (by simp [Value.oneCell']) (by unfold maxLen; omega) (by omega) b3 ?_; intro v' w4 hown' hgrow _; clear tok1)
                  go_roundw
                  case rel =>
                    refine ⟨q + 1, nx ++ [y], false, by omega, by go_num, rfl, i5.out, ?_, ((he2.trans ((Ext.refl _).drewN _)).alloc _).grown hgrow (ownsRow_from hrow)⟩
                    rw [intCells_app, List.length_append]
                    exact hown'
                  case measure => simp [intOf]; omega
          · have i5 := Lib.hid (i2 rfl)
            clear i1 i2 i3 i4 hlt1 hs
            cases hd : y == x
            all_goals
              go_wp2
              go_quiet (fail)
              have tok1 : True := trivial
              have b3 : w1.heap.size ≤ ((wr.drewN nq).alloc (.cells #[.int .i64 y] 3)).heap.size := by rw [World.size_alloc]; have := he2.size; show _ ≤ wr.heap.size + 1; omega
              go_wp2_with (at_builtin; have _t := tok1; refine wpList_append_own _ rfl _ _ 41 rfl w1.heap.size 3 i0 (.int .i64 0) 1 8 Try.underlying41 Hi.out hz0 hz1 hz2 rfl (by decide) _ _ _ rfl ((rows_ext hrow ((Ext.refl _).drewN _)).alloc _) ⟨(wr.drewN nq).heap.size, 0, none⟩ 1 1 [.int .i64 y] rfl rfl (cell_one_new _ _ _) (by simp [Value.oneCell']) (by unfold maxLen; omega) (by omega) b3 ?_; intro v' w4 hown' hgrow _; clear tok1)
              go_roundw
              case rel =>
                refine ⟨q + 1, nx ++ [y], true, by omega, by go_num, rfl, i5.out, ?_, ((he2.trans ((Ext.refl _).drewN _)).alloc _).grown hgrow (ownsRow_from hrow)⟩
                rw [intCells_app, List.length_append]
                exact hown'
              case measure => simp [intOf]; omega
        · obtain rfl : q = m := by omega
          obtain ⟨np, nc, rfl⟩ := ownsRow_isSlice hrow
          have hl1 := hinv.1
          have i6 : inn = true → nx = if x ∈ out then out else Busy.ins L x out := fun h => by subst h; exact (HM.out ▸ hinv).stop
          have i7 : inn = false → nx ++ [x] = if x ∈ out then out else Busy.ins L x out := fun h => by subst h; exact (HM.out ▸ hinv).last
          rw [← HNX.out] at i6 i7
          clear hinv HNX HOV HL HEV
          cases inn
          · have i5 := Lib.hid (i7 rfl)
            clear i6 i7
            go_wp2_with (at_builtin; refine wpList_append_own _ rfl _ _ 41 rfl w1.heap.size 3 i0 (.int .i64 0) 1 8 Try.underlying41 Hi.out hz0 hz1 hz2 rfl (by decide) _ _ _ rfl (hrow.alloc _) ⟨wr.heap.size, 0, none⟩ 1 1 [.int .i64 x] rfl rfl (cell_one_new _ _ _) (by simp [Value.oneCell']) (by unfold maxLen; omega) (by omega) (by rw [World.size_alloc]; have := he2.size; omega) ?_; intro v' w4 hown' hgrow _)
            have hE4 := (he2.alloc _).grown hgrow (ownsRow_from hrow)
            have hI : IntsV w4 v' (nx ++ [x]) := row_ints (by rw [intCells_app, List.length_append]; exact hown') (by rw [List.length_append, List.length_singleton]; omega)
            rw [i5.out] at hI
            go_roundw
            case rel => exact ⟨k + 1, by omega, by go_num, hI, he.trans hE4⟩
            case measure => simp [intOf]; omega
          · have i5 := Lib.hid (i6 rfl)
            clear i6 i7
            have hI : ∀ T, nx = T → IntsV wr (.slice np nx.length nc) T := by intro T e; subst e; exact row_ints hrow (by omega)
            have HI := Lib.hid (hI _ i5.out)
            have hE4 := Lib.hid (he.trans he2)
            clear hI hrow he he2 hr
            go_wp2
            go_roundw
            case rel => exact ⟨k + 1, by omega, by go_num, HI.out, hE4.out⟩
            case measure => simp [intOf]; omega
    · obtain rfl : k = n := by omega
      rw [List.take_of_length_le (by rw [peersOf_length, HN.out]; exact Nat.le_refl _)] at hol hov ⊢
      have hI : IntsV wr (.slice op (Busy.sorted L (peersOf l)).length oc) (Busy.sorted L (peersOf l)) := ⟨_, _, rfl, hol, hov⟩
      have HI := Lib.hid hI
      clear hI hov hol
      go_wp2
      go_ret
      exact ⟨_, rfl, HI.out, he⟩

/-- What the document's Busy answers. -/
theorem busy_doc (p : Option Addr) (n c : Nat) (l : List Ev) (w : World) (hm : n ≤ 60) (h : Events w p n l) :
    Calls Try.prog 17 #[.slice p n c] w fun e w' => ∃ v, e = .returned v ∧ IntsV w' v (Busy.sorted (Busy.lt (peersOf l)) (peersOf l)) ∧ Ext w w' := by
  have h0 := h
  obtain ⟨h1, h2, _, h3 | ⟨b, off, rfl, h4⟩⟩ := h
  · subst h3
    obtain rfl : l = [] := List.eq_nil_of_length_eq_zero h1
    refine (busy_doc_nil p c w).mono ?_
    rintro e w' ⟨rfl, rfl⟩
    exact ⟨_, rfl, ⟨none, 0, rfl, by simp [peersOf, Busy.sorted], .inl rfl⟩, Ext.refl _⟩
  · exact busy_doc_some b off n c l w h1 hm h4 h0

end Go.Proofs.Ytmdeepdediafbaa
