/- The example of chapter 6 answers true. -/
import Derived.Test.YtdgjjlffdfpkcaaSetGaps
namespace Go.Proofs.Ytdgjjlffdfpkcaa
open Go.RowKit

namespace DS
def ex1 : S := ⟨[], [(1, 2)]⟩
def ex2 : S := ⟨[(1, 2)], []⟩
theorem ex1_ok : Ok ex1 := by
  refine ⟨Vec.Ok.nil, ?_, ?_, ?_⟩
  · intro d hd; rw [show ex1.extra = [(1, 2)] from rfl, List.mem_singleton] at hd; subst hd; decide
  · intro d hd; rw [show ex1.extra = [(1, 2)] from rfl, List.mem_singleton] at hd; subst hd; decide
  · exact List.pairwise_singleton _ _
theorem ex2_ok : Ok ex2 := ⟨vec_one (d := (1, 2)) (by decide), by simp [ex2], by simp [ex2], .nil⟩
theorem ex_add1 : add none (1, 2) = (ex1, true) := by
  have hg : Good (1, 2) := by decide
  rw [add_yes none_ok hg (none_has _)]
  have h : plus none (1, 2) = ex1 := by
    refine ext (plus_ok none_ok hg (none_has _)) ex1_ok fun x => ?_
    rw [plus_has none_ok hg (none_has _)]
    constructor
    · rintro (rfl | h)
      · exact .inr (by simp [ex1])
      · exact absurd h (none_has x)
    · rintro (⟨h1, h2⟩ | h)
      · simp only [ex1, Vec.cnt] at h2; omega
      · exact .inl (by simpa [ex1] using h)
  rw [h]
theorem ex_has : ¬ Has ex1 (1, 1) := by
  rintro (⟨_, h⟩ | h)
  · simp [ex1, Vec.cnt] at h
  · simp [ex1] at h
theorem ex_add2 : add ex1 (1, 1) = (ex2, true) := by
  have hg : Good (1, 1) := by decide
  rw [add_yes ex1_ok hg ex_has]
  congr 1
  refine ext (plus_ok ex1_ok hg ex_has) ex2_ok fun x => ?_
  rw [plus_has ex1_ok hg ex_has]
  obtain ⟨x1, x2⟩ := x
  unfold Has
  simp only [ex1, ex2, Vec.cnt, List.mem_singleton, Prod.mk.injEq, List.not_mem_nil, or_false]
  constructor
  · rintro (⟨rfl, rfl⟩ | h | ⟨rfl, rfl⟩)
    · simp
    · omega
    · simp
  · intro h
    split at h <;> omega
theorem ex_gaps : (gaps ex1).take (5 : Int).toNat = [(1, 1)] := by decide
theorem ex_len : len ex2 = 2 := by
  unfold len
  rw [if_pos (check_ok.2 ex2_ok)]
  decide
end DS

theorem dotsV_nil (w : World) : DotsV w (.slice none 0 0) [] := ⟨none, 0, rfl, by simp, by unfold maxLen; omega, rfl, by simp, by simp, .inl rfl⟩
theorem setV_none (w : World) : SetV w (.agg #[.slice none 0 0, .slice none 0 0]) DS.none := ⟨_, _, rfl, dotsV_nil w, dotsV_nil w⟩

/-- What Gaps of a set answers. -/
theorem set_gaps (v : Value) (s : DS.S) (most : Int) (w : World) (h : SetV w v s) (hm : most ≤ 1000) :
    Calls Try.prog 18 #[v, .int .i64 most] w fun e w' => ∃ v', e = .returned v' ∧ DotsV w' v' (DS.gapsF s most) ∧ Ext w w' := by
  unfold DS.gapsF
  by_cases h0 : DS.check s = 0
  · rw [if_pos h0]
    exact set_gaps_yes v s most w h (DS.check_ok.1 h0) hm
  · rw [if_neg h0]
    exact set_gaps_no v s most w h h0

set_option maxRecDepth 100000 in
set_option maxHeartbeats 2000000 in
theorem dots_awake (w : World) : Calls Try.prog 9 #[] w fun e w' => e = .returned (.bool true) ∧ Ext w w' := by
  have hadd1 := set_add _ DS.none (1, 2) w (setV_none w) (by simp [DS.none])
  rw [DS.ex_add1] at hadd1
  have H1 := Lib.hid hadd1
  clear hadd1
  go_enter Try.func9, Try.ntmps9
  go_wp2_with fail
  refine H1.out.mono ?_
  rintro e w1 ⟨v1, rfl, hv1, g1⟩
  have hv1' := hv1
  obtain ⟨b1, e1, rfl, ⟨pb1, cb1, rfl, _⟩, ⟨pe1, ce1, rfl, _⟩⟩ := hv1
  have hx2 := (Ext.refl w1).alloc (.cells #[.slice pb1 DS.ex1.base.length cb1, .slice pe1 DS.ex1.extra.length ce1] 29)
  have t1 := Two.new w1 29 (.slice pb1 DS.ex1.base.length cb1) (.slice pe1 DS.ex1.extra.length ce1)
  have hga := fun W (hx : Ext w1 W) => set_gaps _ DS.ex1 5 W (hv1'.ext hx) (by omega)
  have hgl : DS.gapsF DS.ex1 5 = [(1, 1)] := by unfold DS.gapsF; rw [if_pos (DS.check_ok.2 DS.ex1_ok)]; exact DS.ex_gaps
  rw [hgl] at hga
  have had := fun W (hx : Ext w1 W) => set_add _ DS.ex1 (1, 1) W (hv1'.ext hx) (by simp [DS.ex1])
  rw [DS.ex_add2] at had
  have HG := Lib.hid hga
  have HA := Lib.hid had
  clear hga had hgl hv1' H1
  generalize DS.ex1.base.length = nb1 at *
  generalize DS.ex1.extra.length = ne1 at *
  go_wp2_with fail
  refine (HG.out _ hx2).mono ?_
  rintro e w2 ⟨vg, rfl, hvg, g2⟩
  obtain ⟨pg, cg, rfl, _⟩ := hvg
  have t2 := t1.ext g2
  have k1 := t2.c0
  have k2 := t2.c1
  clear HG
  go_wp2_with fail
  refine (HA.out _ (hx2.trans g2)).mono ?_
  rintro e w3 ⟨v3, rfl, hv3, g3⟩
  obtain ⟨b3, e3, rfl, hb3, he3⟩ := hv3
  have hb3' := hb3
  have he3' := he3
  obtain ⟨pb3, cb3, rfl, _⟩ := hb3
  obtain ⟨pe3, ce3, rfl, _⟩ := he3
  have t3 := t2.ext g3
  have l1 := t3.c0
  have l2 := t3.c1
  have l3 := t3.f0
  have l4 := t3.f1
  have e1 : DS.ex2.base.length = 1 := rfl
  have e2 : DS.ex2.extra.length = 0 := rfl
  rw [e1] at hb3' ⊢
  rw [e2] at he3' ⊢
  have gr1 := grown_setCell w3 w1.heap.size 0 (.slice pb3 1 cb3)
  have gr2 := grown_setCell (w3.setCell ⟨w1.heap.size, 0, none⟩ (.slice pb3 1 cb3)) w1.heap.size 1 (.slice pe3 0 ce3)
  have t4 := t3.set0 (.slice pb3 1 cb3)
  have t5 := t4.set1 (.slice pe3 0 ce3)
  have hb5 := (hb3'.box t3 gr1).box t4 gr2
  have he5 := (he3'.box t3 gr1).box t4 gr2
  have hx5 := ext_grownBy (ext_grownBy ((g1.trans hx2).trans (g2.trans g3)) gr1 g1.size) gr2 g1.size
  have hln := fun W (hx : Ext ((w3.setCell ⟨w1.heap.size, 0, none⟩ (.slice pb3 1 cb3)).setCell ⟨w1.heap.size, 1, none⟩ (.slice pe3 0 ce3)) W) => set_len _ DS.ex2 W ⟨_, _, rfl, hb5.ext hx, he5.ext hx⟩ (by simp [DS.ex2])
  rw [DS.ex_len] at hln
  have hcell : ∃ b off, pb3 = some ⟨b, off, none⟩ ∧ ((w3.setCell ⟨w1.heap.size, 0, none⟩ (.slice pb3 1 cb3)).setCell ⟨w1.heap.size, 1, none⟩ (.slice pe3 0 ce3)).cell? ⟨b, off + 1, none⟩ = some (.int .i64 2) := by
    obtain ⟨p, c, hpe, _, _, _, _, _, h0 | ⟨b, off, hp, hs⟩⟩ := hb5
    · cases h0
    · injection hpe with hpe
      refine ⟨b, off, by rw [hpe, hp], ?_⟩
      have := (hs 0 (by decide)).2
      rw [Nat.zero_mul, Nat.add_zero] at this
      exact this
  obtain ⟨b, off, rfl, hcell⟩ := hcell
  clear hb5 he5 gr1 gr2 t4 hb3' he3' HA t1 t2 t3 k1 k2
  have m1 := t5.c0
  have m2 := t5.c1
  have HLN := Lib.hid hln
  have HX5 := Lib.hid hx5
  clear hln hx5 t5
  generalize hw5 : ((w3.setCell ⟨w1.heap.size, 0, none⟩ (.slice (some ⟨b, off, none⟩) 1 cb3)).setCell ⟨w1.heap.size, 1, none⟩ (.slice pe3 0 ce3)) = w5 at *
  go_wp2_with fail
  refine (HLN.out _ (Ext.refl _)).mono ?_
  rintro e w6 ⟨rfl, g6⟩
  go_wp2
  go_ret
  exact ⟨rfl, HX5.out.trans g6⟩

end Go.Proofs.Ytdgjjlffdfpkcaa
