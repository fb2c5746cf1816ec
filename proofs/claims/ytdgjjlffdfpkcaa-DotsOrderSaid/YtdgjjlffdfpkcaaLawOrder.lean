/- The walk of DotsOrder. -/
import Derived.Test.YtdgjjlffdfpkcaaOwn
import Derived.Test.YtdgjjlffdfpkcaaOrderPlain
import Derived.Test.YtdgjjlffdfpkcaaQuietExt
import Derived.Deep.CutRange
namespace Go.Proofs.Ytdgjjlffdfpkcaa
open Go.RowKit

set_option maxRecDepth 100000 in
set_option maxHeartbeats 4000000 in
theorem law_order_few (p : Option Addr) (c n : Nat) (l : List Dot) (ask : Dot) (w : World) (hn : l.length = n) (hm : n ≤ 40) (hl : l.length = 0 ∨ ∃ b off, p = some ⟨b, off, none⟩ ∧ DotsAt w b off l) :
    Calls Try.prog 5 #[.slice p n c, .agg #[.int .i64 ask.1, .int .i64 ask.2]] w fun e w' => e = .returned (.bool true) ∧ Ext w w' := by
  have HL := Lib.hid hl
  have HN := Lib.hid hn
  clear hl hn
  go_enter Try.func5, Try.ntmps5
  go_wp2
  have hA := Two.new w 26 (.int .i64 ask.1) (.int .i64 ask.2)
  have hS := SetB.new (w.alloc (.cells #[.int .i64 ask.1, .int .i64 ask.2] 26)) 29 (s := DS.none) (dotsV_nil _) (dotsV_nil _)
  have hT := SetB.new ((w.alloc (.cells #[.int .i64 ask.1, .int .i64 ask.2] 26)).alloc (.cells #[.slice none 0 0, .slice none 0 0] 29)) 29 (s := DS.none) (dotsV_nil _) (dotsV_nil _)
  have hw0 : (w.alloc (.cells #[.int .i64 ask.1, .int .i64 ask.2] 26)).heap.size = w.heap.size + 1 := World.size_alloc _ _
  have hw1 : ((w.alloc (.cells #[.int .i64 ask.1, .int .i64 ask.2] 26)).alloc (.cells #[.slice none 0 0, .slice none 0 0] 29)).heap.size = w.heap.size + 1 + 1 := by rw [World.size_alloc, hw0]
  rw [hw0] at hS
  rw [hw1] at hT
  have hA2 := (hA.ext ((Ext.refl _).alloc (.cells #[.slice none 0 0, .slice none 0 0] 29))).ext ((Ext.refl _).alloc (.cells #[.slice none 0 0, .slice none 0 0] 29))
  have hS2 := hS.ext ((Ext.refl _).alloc (.cells #[.slice none 0 0, .slice none 0 0] 29))
  have hE := ((Ext.refl w).alloc (.cells #[.int .i64 ask.1, .int .i64 ask.2] 26)).alloc (.cells #[.slice none 0 0, .slice none 0 0] 29) |>.alloc (.cells #[.slice none 0 0, .slice none 0 0] 29)
  clear hw0 hw1 hA hS
  go_loopw [7, 8, 9] (fun has m i wr => ∃ (k : Nat) (p1 p2 q1 q2 : Option Addr) (c1 c2 d1 d2 : Nat), k ≤ n ∧ i = .int .i64 k ∧ m = .int .i64 (DS.size (DS.adds DS.none (l.take k))) ∧ has = .bool (DS.has (DS.adds DS.none (l.take k)) ask) ∧ Ext w wr ∧ Two wr w.heap.size 26 (.int .i64 ask.1) (.int .i64 ask.2) ∧ SetB wr (w.heap.size + 1) 29 (DS.adds DS.none (l.take k)) p1 c1 p2 c2 ∧ SetB wr (w.heap.size + 1 + 1) 29 (DS.adds DS.none (l.reverse.take k)) q1 d1 q2 d2) (fun _ _ i _ => n - (intOf i).toNat)
  case atStart => exact ⟨0, _, _, _, _, _, _, _, _, by omega, rfl, rfl, by rw [List.take_zero]; exact congrArg Value.bool (DS.none_hasnot ask).symm, hE, hA2, hS2, hT⟩
  case round =>
    clear hE hA2 hS2 hT
    obtain ⟨k, p1, p2, q1, q2, c1, c2, d1, d2, hk, rfl, rfl, rfl, hx, hA, hS, hT⟩ := hrel
    have k1 := hS.two.c0
    have k2 := hS.two.c1
    by_cases hlt : k < n
    · have hkl : k < l.length := by rw [HN.out]; exact hlt
      obtain ⟨b, off, rfl, hcl⟩ : ∃ b off, p = some ⟨b, off, none⟩ ∧ DotsAt w b off l := by rcases HL.out with h | h; (· omega); exact h
      have h1 := hx.cell (hcl k hkl).1
      have h2 := hx.cell (hcl k hkl).2
      have HCL := Lib.hid hcl
      have HS := Lib.hid hS
      have HT := Lib.hid hT
      have HA := Lib.hid hA
      have hok := DS.adds_ok DS.none_ok (l.take k)
      have hst := DS.has_step hok l[k] ask
      have hsz := DS.add_size l[k] hok
      have hsn := DS.adds_snoc DS.none l k hkl
      have hadd := fun W (hW : Ext wr W) => set_add _ _ l[k] W ((HS.out.ext hW).val) (by have := DS.extra_take l k; omega)
      unfold dotV at hadd
      have hzb := DS.size_bound (l.take k)
      rw [List.length_take] at hzb
      rw [← hsn] at hst hsz hadd
      obtain ⟨d, hd⟩ : ∃ d, l[k] = d := ⟨_, rfl⟩
      rw [hd] at h1 h2 hst hsz hadd
      obtain ⟨is, his⟩ : ∃ is, (DS.add (DS.adds DS.none (l.take k)) d).2 = is := ⟨_, rfl⟩
      rw [his] at hsz hadd
      generalize hS1 : DS.adds DS.none (l.take (k + 1)) = S1 at *
      generalize hS0 : DS.adds DS.none (l.take k) = S0 at *
      have hzb1 := hzb.1
      have hzb2 : DS.size S0 ≤ 67108864 + 40 := by have := hzb.2; omega
      clear hzb
      generalize DS.size S0 = z0 at *
      generalize DS.has S0 ask = b0 at *
      obtain ⟨b1, hb1⟩ : ∃ b, DS.has S1 ask = b := ⟨_, rfl⟩
      rw [hb1] at hst
      have HB1 := Lib.hid hb1
      clear hb1
      obtain ⟨z1, hz1⟩ : ∃ z, DS.size S1 = z := ⟨_, rfl⟩
      rw [hz1] at hsz
      have HZ1 := Lib.hid hz1
      clear hz1
      have HADD := Lib.hid hadd
      have HSZ := Lib.hid hsz
      have HST := Lib.hid hst
      have HS1 := Lib.hid hS1
      clear hS1 hadd hsz hst hcl hS hT hA hsn his
      have h1' := ((Ext.refl wr).alloc (.cells #[.slice none 0 0, .slice none 0 0] 29)).cell h1
      have h2' := ((Ext.refl wr).alloc (.cells #[.slice none 0 0, .slice none 0 0] 29)).cell h2
      have k1' := ((Ext.refl wr).alloc (.cells #[.slice none 0 0, .slice none 0 0] 29)).cell k1
      have k2' := ((Ext.refl wr).alloc (.cells #[.slice none 0 0, .slice none 0 0] 29)).cell k2
      go_upto_region 8 with fail
      go_cut [10, 11] from 18 to 63 (fun x10 x11 W => x11 = .bool is ∧ ∃ (X : Nat) (pb2 pe2 : Option Addr) (cb2 ce2 : Nat), x10 = .pointer (some ⟨X, 0, none⟩) ∧ SetB W X 29 S1 pb2 cb2 pe2 ce2 ∧ SetB W (w.heap.size + 1) 29 S0 p1 c1 p2 c2 ∧ SetB W (w.heap.size + 1 + 1) 29 (DS.adds DS.none (l.reverse.take k)) q1 d1 q2 d2 ∧ Two W w.heap.size 26 (.int .i64 ask.1) (.int .i64 ask.2) ∧ Ext w W ∧ w.heap.size + 1 + 1 < X)
      case first =>
        refine wp_region_noPanic ?_
        go_region_with (first
          | (go_at_call 20; refine (HADD.out _ (Ext.refl _).drew).mono ?_; rintro e w4 ⟨v2, rfl, hv2, g4⟩; obtain ⟨vb2, ve2, rfl, hb2, he2⟩ := hv2; have hb2' := Lib.hid hb2; have he2' := Lib.hid he2; obtain ⟨pb2, cb2, rfl, _⟩ := hb2; obtain ⟨pe2, ce2, rfl, _⟩ := he2; have S5 := SetB.new w4 29 hb2'.out he2'.out; have g5 := (((Ext.refl wr).drew.trans g4).alloc (.cells #[.slice pb2 S1.base.length cb2, .slice pe2 S1.extra.length ce2] 29)); have O := HS.out.ext g5; have OT := HT.out.ext g5; have OA := HA.out.ext g5; have E5 := hx.trans g5; have L5 : w.heap.size + 1 + 1 < w4.heap.size := Nat.lt_of_lt_of_le HT.out.two.lt ((Ext.refl wr).drew.trans g4).size)
          | (go_at_call 20; refine (HADD.out _ ((Ext.refl _).alloc _).drew).mono ?_; rintro e w4 ⟨v2, rfl, hv2, g4⟩; obtain ⟨vb2, ve2, rfl, hb2, he2⟩ := hv2; have hd5 := hb2; have he5 := he2; obtain ⟨pb2, cb2, rfl, _⟩ := hb2; obtain ⟨pe2, ce2, rfl, _⟩ := he2; have g5 := ((Ext.refl wr).alloc (.cells #[.slice none 0 0, .slice none 0 0] 29)).drew.trans g4; have T := (Two.new wr 29 (.slice none 0 0) (.slice none 0 0)).ext ((Ext.refl _).drew.trans g4); have j1 := T.c0; have j2 := T.c1; have j3 := T.f0; have j4 := T.f1; obtain ⟨S5, gS⟩ := SetB.put2 T hd5 he5; have L5 : w.heap.size + 1 + 1 < wr.heap.size := HT.out.two.lt; have O := (HS.out.ext g5).other T gS (by omega); have OT := (HT.out.ext g5).other T gS (by omega); have OA := (HA.out.ext g5).grown gS (by omega); have E5 := ext_grownBy (hx.trans g5) gS hx.size))
        all_goals
          refine NoPanic.normal ?_
          go_wp2_with fail
          go_meet
          exact ⟨rfl, _, pb2, pe2, cb2, ce2, rfl, S5, O, OT, OA, E5, L5⟩
      case rest =>
      obtain ⟨rfl, X, pb2, pe2, cb2, ce2, rfl, hX, hS, hT, hA, hE, hXl⟩ := hcut
      have m1 := hX.two.c0
      have m2 := hX.two.c1
      have m3 := hS.two.c0
      have m4 := hS.two.c1
      have m5 := hS.two.f0
      have m6 := hS.two.f1
      obtain ⟨hS', gS⟩ := SetB.put2 hS.two hX.base hX.extra
      have hT' := hT.other hS.two gS (by omega)
      have hA' := hA.grown gS (by omega)
      have hE' := ext_grownBy hE gS (by omega)
      generalize hW1 : (wc.setCell ⟨w.heap.size + 1, 0, none⟩ (.slice pb2 S1.base.length cb2)).setCell ⟨w.heap.size + 1, 1, none⟩ (.slice pe2 S1.extra.length ce2) = W1 at *
      obtain ⟨r, hr⟩ : ∃ r : Nat, n = r + 1 + k := ⟨n - 1 - k, by omega⟩
      have hidx : ((n : Int) - 1 - k) = (r : Int) := by omega
      have hrn : r < n := by omega
      have hwr1 : IntKind.i64.wrap ((n : Int) - 1) = (n : Int) - 1 := IntWalk.i64_in _ ⟨by omega, by omega⟩
      have hwr2 : IntKind.i64.wrap (r : Int) = (r : Int) := IntWalk.i64_in _ ⟨by omega, by omega⟩
      have hrl : r < l.length := by rw [HN.out]; exact hrn
      have n1 := hE'.cell (HCL.out r hrl).1
      have n2 := hE'.cell (HCL.out r hrl).2
      have hkr : k < l.reverse.length := by rw [List.length_reverse]; exact hkl
      have hre : l.reverse[k] = l[r] := by rw [List.getElem_reverse]; congr 1; have := HN.out; omega
      have hsnT := DS.adds_snoc DS.none l.reverse k hkr
      have haddT := fun W' (hW : Ext W1 W') => set_add _ _ l.reverse[k] W' ((hT'.ext hW).val) (by have := DS.extra_take l.reverse k; omega)
      rw [← hsnT] at haddT
      unfold dotV at haddT
      rw [hre] at haddT
      generalize l[r] = dr at *
      generalize hT1 : DS.adds DS.none (l.reverse.take (k + 1)) = T1 at *
      have HT1 := Lib.hid hT1
      clear hT1
      generalize DS.adds DS.none (l.reverse.take k) = T0 at *
      generalize (DS.add T0 dr).2 = ist at *
      have HADT := Lib.hid haddT
      have HE' := Lib.hid hE'
      have HT' := Lib.hid hT'
      have HS' := Lib.hid hS'
      have HA' := Lib.hid hA'
      have n3 := hT'.two.c0
      have n4 := hT'.two.c1
      clear hr haddT hsnT hre hS hT hA hX hE hS' hT' hA' hE' HADD h1' h2' k1' k2' HS HT HA
      go_upto_if 34 with fail
      go_cut [8] from 18 to 63 (fun m W => m = .int .i64 z1 ∧ W = W1)
      case first =>
        cases is with
        | true =>
          have hs1 : z1 = z0 + 1 := HSZ.out
          go_wp2_with fail
          go_meet
          exact ⟨by rw [hs1], rfl⟩
        | false =>
          have hs1 : z1 = z0 := by have := HSZ.out; simpa using this
          go_wp2_with fail
          go_meet
          exact ⟨by rw [hs1], rfl⟩
      case rest =>
      obtain ⟨rfl, rfl⟩ := hcut
      go_upto_region 12 with fail
      have n5 := HT'.out.two.f0
      have n6 := HT'.out.two.f1
      go_cut [] from 18 to 63 (fun W => ∃ (pb3 pe3 : Option Addr) (cb3 ce3 : Nat), SetB W (w.heap.size + 1) 29 S1 pb2 cb2 pe2 ce2 ∧ SetB W (w.heap.size + 1 + 1) 29 T1 pb3 cb3 pe3 ce3 ∧ Two W w.heap.size 26 (.int .i64 ask.1) (.int .i64 ask.2) ∧ Ext w W)
      case first =>
        refine wp_region_noPanic ?_
        go_region_with (go_at_call 20; refine (HADT.out _ (Ext.refl _).drew).mono ?_; rintro e w4 ⟨v3, rfl, hv3, g4⟩; obtain ⟨vb3, ve3, rfl, hb3, he3⟩ := hv3; have hb3' := Lib.hid hb3; have he3' := Lib.hid he3; obtain ⟨pb3, cb3, rfl, _⟩ := hb3; obtain ⟨pe3, ce3, rfl, _⟩ := he3; have g5 := (Ext.refl _).drew.trans g4; have t2 := HT'.out.two.ext g5; have j1 := t2.c0; have j2 := t2.c1; have j3 := t2.f0; have j4 := t2.f1; obtain ⟨T5, gT⟩ := SetB.put2 t2 hb3'.out he3'.out; have S5 := (HS'.out.ext g5).other t2 gT (by omega); have A5 := (HA'.out.ext g5).grown gT (by omega); have E5 := ext_grownBy (HE'.out.trans g5) gT (by omega))
        all_goals
          refine NoPanic.normal ?_
          go_wp2_with fail
          go_meet
          exact ⟨pb3, pe3, cb3, ce3, S5, T5, A5, E5⟩
      case rest =>
      obtain ⟨pb3, pe3, cb3, ce3, hS, hT, hA, hE⟩ := hcut
      go_upto_region 13 with fail
      have o1 := hE.cell (HCL.out k hkl).1
      have o2 := hE.cell (HCL.out k hkl).2
      rw [hd] at o1 o2
      have e1 := cell_ext o1
      have e2 := cell_ext o2
      have e3 := cell_ext hA.c0
      have e4 := cell_ext hA.c1
      have e5 := cell_ext hS.two.c0
      have e6 := cell_ext hS.two.c1
      have hhas := fun (p : ExtOf wc) => set_has _ S1 ask p.to (hS.val.ext p.ext)
      unfold dotV at hhas
      rw [HB1.out] at hhas
      have HH := Lib.hid hhas
      have HS2 := Lib.hid hS
      have HT2 := Lib.hid hT
      have HA2 := Lib.hid hA
      have HE2 := Lib.hid hE
      have HD := Lib.hid hd
      clear hhas o1 o2 hS hT hA hE hd hidx hrn hrl hwr1 hwr2 hkr HADT HE' HT' HS' HA' n1 n2 n3 n4 n5 n6
      cases b0 with
      | true =>
        have hb : b1 = true := HST.out.symm
        subst hb
        refine wp_region_quiet_ext (by kernel_rfl) (by kernel_rfl) ?_
        repeat (go_big_quiet_step (fail))
        refine wpQuiet_nil ?_
        intro w4 g4
        go_wp2_with fail
        go_roundw
        case rel => exact ⟨k + 1, pb2, pe2, pb3, pe3, cb2, ce2, cb3, ce3, by omega, by go_num, by rw [HS1.out, HZ1.out], by rw [HS1.out, HB1.out], HE2.out.trans g4, HA2.out.ext g4, by rw [HS1.out]; exact HS2.out.ext g4, by rw [HT1.out]; exact HT2.out.ext g4⟩
        case measure => simp [intOf]; omega
      | false =>
        by_cases he : d.1 = ask.1 ∧ d.2 = ask.2
        · have he1 := he.1
          have he2 := he.2
          clear he
          refine wp_region_quiet_ext (by kernel_rfl) (by kernel_rfl) ?_
          repeat (go_big_quiet_step ((go_at_call 13; exact calls_ext (HH.out _))))
          refine wpQuiet_nil ?_
          intro w4 g4
          go_wp2_with fail
          go_roundw
          case rel => exact ⟨k + 1, pb2, pe2, pb3, pe3, cb2, ce2, cb3, ce3, by omega, by go_num, by rw [HS1.out, HZ1.out], by rw [HS1.out, HB1.out], HE2.out.trans g4, HA2.out.ext g4, by rw [HS1.out]; exact HS2.out.ext g4, by rw [HT1.out]; exact HT2.out.ext g4⟩
          case measure => simp [intOf]; omega
        · have hb : b1 = false := by
            have := HST.out
            rw [decide_eq_false (fun e => he (by rw [e]; exact ⟨rfl, rfl⟩))] at this
            exact this.symm
          subst hb
          by_cases he1 : d.1 = ask.1
          · have he2 : ¬ d.2 = ask.2 := fun h => he ⟨he1, h⟩
            clear he
            refine wp_region_quiet_ext (by kernel_rfl) (by kernel_rfl) ?_
            repeat (go_big_quiet_step (fail))
            refine wpQuiet_nil ?_
            intro w4 g4
            go_wp2_with fail
            go_roundw
            case rel => exact ⟨k + 1, pb2, pe2, pb3, pe3, cb2, ce2, cb3, ce3, by omega, by go_num, by rw [HS1.out, HZ1.out], by rw [HS1.out, HB1.out], HE2.out.trans g4, HA2.out.ext g4, by rw [HS1.out]; exact HS2.out.ext g4, by rw [HT1.out]; exact HT2.out.ext g4⟩
            case measure => simp [intOf]; omega
          · clear he
            refine wp_region_quiet_ext (by kernel_rfl) (by kernel_rfl) ?_
            repeat (go_big_quiet_step (fail))
            refine wpQuiet_nil ?_
            intro w4 g4
            go_wp2_with fail
            go_roundw
            case rel => exact ⟨k + 1, pb2, pe2, pb3, pe3, cb2, ce2, cb3, ce3, by omega, by go_num, by rw [HS1.out, HZ1.out], by rw [HS1.out, HB1.out], HE2.out.trans g4, HA2.out.ext g4, by rw [HS1.out]; exact HS2.out.ext g4, by rw [HT1.out]; exact HT2.out.ext g4⟩
            case measure => simp [intOf]; omega
    · obtain rfl : k = n := by omega
      have hall : l.take k = l := List.take_of_length_le (by rw [HN.out]; omega)
      have hallr : l.reverse.take k = l.reverse := List.take_of_length_le (by rw [List.length_reverse, HN.out]; omega)
      rw [hall] at hS k1 k2 ⊢
      rw [hallr, ← DS.adds_reverse] at hT
      have hok := DS.adds_ok DS.none_ok l
      have hexl := DS.extra_take l k
      rw [hall] at hexl
      generalize DS.adds DS.none l = S at *
      have hV := hS.val
      have hsame : ∀ p : ExtOf wr, Calls Try.prog 17 #[.agg #[.slice p1 S.base.length c1, .slice p2 S.extra.length c2], .agg #[.slice q1 S.base.length d1, .slice q2 S.extra.length d2]] p.to fun e w' => e = .returned (.bool true) ∧ Ext p.to w' := fun p => by
        have h := ref_set_same _ _ S S p.to (hV.ext p.ext) (hT.val.ext p.ext)
        rwa [decide_eq_true rfl] at h
      have hhas := fun (p : ExtOf wr) => set_has _ S ask p.to (hV.ext p.ext)
      unfold dotV at hhas
      have hlen := fun (p : ExtOf wr) => set_len _ S p.to (hV.ext p.ext) (by omega)
      rw [DS.len_ok hok] at hlen
      have hchk : ∀ p : ExtOf wr, Calls Try.prog 11 #[.agg #[.slice p1 S.base.length c1, .slice p2 S.extra.length c2]] p.to fun e w' => e = .returned (.int .i64 0) ∧ Ext p.to w' := fun p => by
        have h := set_check _ S p.to (hV.ext p.ext)
        rwa [DS.check_ok.2 hok] at h
      have hits := fun (p : ExtOf wr) => dots_its p1 p2 S.base.length c1 S.extra.length c2 p.to
      have hits2 := fun (p : ExtOf wr) => dots_its q1 q2 S.base.length d1 S.extra.length d2 p.to
      have haw := fun (p : ExtOf wr) => dots_awake p.to
      have e1 := cell_ext k1
      have e2 := cell_ext k2
      have e3 := cell_ext hT.two.c0
      have e4 := cell_ext hT.two.c1
      have e5 := cell_ext hA.c0
      have e6 := cell_ext hA.c1
      generalize DS.has S ask = b at *
      generalize DS.size S = z at *
      have HSA := Lib.hid hsame
      have HHA := Lib.hid hhas
      have HLE := Lib.hid hlen
      have HCH := Lib.hid hchk
      have HI1 := Lib.hid hits
      have HI2 := Lib.hid hits2
      have HAW := Lib.hid haw
      clear hV hsame hhas hlen hchk hits hits2 haw hS hT hA hok hexl hall hallr
      generalize S.base.length = nb at *
      generalize S.extra.length = ne at *
      go_wp2_with fail
      refine wp_region_quiet_ext (by kernel_rfl) (by kernel_rfl) ?_
      repeat (go_big_quiet_step ((first
        | (go_at_call 22; first | exact calls_ext (HI1.out _) | exact calls_ext (HI2.out _))
        | (go_at_call 17; exact calls_ext (HSA.out _))
        | (go_at_call 13; exact calls_ext (HHA.out _))
        | (go_at_call 15; exact calls_ext (HLE.out _))
        | (go_at_call 11; exact calls_ext (HCH.out _))
        | (go_at_call 9; exact calls_ext (HAW.out _)))))
      refine wpQuiet_nil ?_
      intro w4 g4
      go_wp2_with fail
      go_ret
      exact ⟨rfl, hx.trans g4⟩

set_option maxRecDepth 100000 in
theorem law_order (p : Option Addr) (n c : Nat) (l : List Dot) (ask : Dot) (w : World) (h : DotsW w p n l) :
    Calls Try.prog 5 #[.slice p n c, .agg #[.int .i64 ask.1, .int .i64 ask.2]] w fun e w' => e = .returned (.bool true) ∧ Ext w w' := by
  by_cases hm : n ≤ 40
  · exact law_order_few p c n l ask w h.1 hm (by rw [h.1]; exact h.2.2)
  · clear h
    go_enter Try.func5, Try.ntmps5
    go_wp2_with fail
    refine (dots_awake _).mono ?_
    rintro e w7 ⟨rfl, g7⟩
    go_wp2
    go_ret
    exact ⟨rfl, ((Ext.refl w).alloc _).trans g7⟩
end Go.Proofs.Ytdgjjlffdfpkcaa
