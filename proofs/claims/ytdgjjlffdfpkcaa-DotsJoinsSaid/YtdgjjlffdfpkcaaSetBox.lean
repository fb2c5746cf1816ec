/- A set in a box; sets that dots are put into one behind the other. -/
import Derived.Test.YtdgjjlffdfpkcaaSetAwake
import Derived.Test.YtdgjjlffdfpkcaaRefSetLen
namespace Go.Proofs.Ytdgjjlffdfpkcaa
open Go.RowKit

/-- A set in a box: its two slices. -/
structure SetB (W : World) (B : Nat) (t : TypeId) (s : DS.S) (p1 : Option Addr) (c1 : Nat) (p2 : Option Addr) (c2 : Nat) : Prop where
  two : Two W B t (.slice p1 s.base.length c1) (.slice p2 s.extra.length c2)
  base : DotsV W (.slice p1 s.base.length c1) s.base
  extra : DotsV W (.slice p2 s.extra.length c2) s.extra

theorem SetB.val {W : World} {B : Nat} {t : TypeId} {s : DS.S} {p1 p2 : Option Addr} {c1 c2 : Nat} (h : SetB W B t s p1 c1 p2 c2) : SetV W (.agg #[.slice p1 s.base.length c1, .slice p2 s.extra.length c2]) s := ⟨_, _, rfl, h.base, h.extra⟩
theorem SetB.ext {W W' : World} {B : Nat} {t : TypeId} {s : DS.S} {p1 p2 : Option Addr} {c1 c2 : Nat} (h : SetB W B t s p1 c1 p2 c2) (he : Ext W W') : SetB W' B t s p1 c1 p2 c2 := ⟨h.two.ext he, h.base.ext he, h.extra.ext he⟩
/-- What another box holds stays. -/
theorem SetB.other {W W' : World} {B C : Nat} {t u : TypeId} {s : DS.S} {p1 p2 q1 q2 : Option Addr} {c1 c2 k1 k2 n1 n2 : Nat} (h : SetB W B t s p1 c1 p2 c2) (hC : Two W C u (.slice q1 n1 k1) (.slice q2 n2 k2)) (hg : W.grownBy W' (some C)) (hne : B ≠ C) : SetB W' B t s p1 c1 p2 c2 :=
  ⟨h.two.grown hg hne, h.base.box hC hg, h.extra.box hC hg⟩
/-- A set is stored. -/
theorem SetB.put {W : World} {B : Nat} {t : TypeId} {s : DS.S} {p1 p2 q1 q2 : Option Addr} {c1 c2 k1 k2 n1 n2 : Nat} (hB : Two W B t (.slice q1 n1 k1) (.slice q2 n2 k2)) (hb : DotsV W (.slice p1 s.base.length c1) s.base) (he : DotsV W (.slice p2 s.extra.length c2) s.extra) :
    SetB ((W.setCell ⟨B, 0, none⟩ (.slice p1 s.base.length c1)).setCell ⟨B, 1, none⟩ (.slice p2 s.extra.length c2)) B t s p1 c1 p2 c2 := by
  have g1 := grown_setCell W B 0 (.slice p1 s.base.length c1)
  have g2 := grown_setCell (W.setCell ⟨B, 0, none⟩ (.slice p1 s.base.length c1)) B 1 (.slice p2 s.extra.length c2)
  have t1 := hB.set0 (.slice p1 s.base.length c1)
  exact ⟨t1.set1 _, (hb.box hB g1).box t1 g2, (he.box hB g1).box t1 g2⟩
theorem SetB.new (W : World) (t : TypeId) {s : DS.S} {p1 p2 : Option Addr} {c1 c2 : Nat} (hb : DotsV W (.slice p1 s.base.length c1) s.base) (he : DotsV W (.slice p2 s.extra.length c2) s.extra) :
    SetB (W.alloc (.cells #[.slice p1 s.base.length c1, .slice p2 s.extra.length c2] t)) W.heap.size t s p1 c1 p2 c2 :=
  ⟨Two.new _ _ _ _, hb.ext ((Ext.refl _).alloc _), he.ext ((Ext.refl _).alloc _)⟩

theorem two_stores (W : World) (B : Nat) (x y : Value) : W.grownBy ((W.setCell ⟨B, 0, none⟩ x).setCell ⟨B, 1, none⟩ y) (some B) := (grown_setCell W B 0 x).trans (grown_setCell _ B 1 y)

namespace DS
theorem adds_snoc (s : S) (l : List Dot) (k : Nat) (h : k < l.length) : adds s (l.take (k + 1)) = (add (adds s (l.take k)) l[k]).1 := by rw [take_next l k h, adds_next]
theorem adds_size {s : S} (h : Ok s) (l : List Dot) (hg : ∀ d ∈ l, Good d) (hn : l.Nodup) (hs : ∀ d ∈ l, ¬ Has s d) : size (adds s l) = size s + l.length := by
  induction l generalizing s with
  | nil => simp [adds]
  | cons d l ih =>
    have k := List.nodup_cons.1 hn
    have ha := add_yes h (hg d (List.mem_cons_self ..)) (hs d (List.mem_cons_self ..))
    have := ih (add_ok d h) (fun x hx => hg x (List.mem_cons_of_mem _ hx)) k.2 (fun x hx hh => by
      rcases (add_has d h x).1 hh with ⟨rfl, _⟩ | hh
      · exact k.1 hx
      · exact hs x (List.mem_cons_of_mem _ hx) hh)
    show size (adds (add s d).1 l) = _
    rw [this, add_size d h, ha, List.length_cons]
    simp only [if_true]
    omega
/-- A gap is new, whichever gaps ahead of it were put. -/
theorem gap_new {s : S} (h : Ok s) (k : Nat) (hk : k < (gaps s).length) : add (adds s ((gaps s).take k)) (gaps s)[k] = (adds s ((gaps s).take (k + 1)), true) := by
  have hm : (gaps s)[k] ∈ gaps s := List.getElem_mem hk
  have hno : ¬ Has (adds s ((gaps s).take k)) (gaps s)[k] := by
    rw [adds_has h]
    rintro (⟨h1, _⟩ | h1)
    · obtain ⟨i, hi, he⟩ := List.getElem_of_mem h1
      rw [List.getElem_take] at he
      rw [List.length_take] at hi
      have := List.pairwise_iff_getElem.1 (gaps_sorted h) i k (by omega) hk (by omega)
      rw [he] at this
      exact lt_irrefl _ this
    · exact (gap_good h hm).2 h1
  have ha := add_yes (adds_ok h _) (gap_good h hm).1 hno
  rw [adds_snoc _ _ _ hk, ha]
theorem gaps_few {l : List Dot} (hl : l.length ≤ 12) (hc : ∀ d ∈ l, d.2 ≤ 40) : (gaps (adds none l)).length ≤ 468 := by
  have hok := adds_ok none_ok l
  have h1 := adds_extra none_ok l
  have h2 := gapsOf_length (adds none l).base (-1, 0) (adds none l).extra 39 (fun p => Vec.cnt_nonneg hok.vec p) (by simp) (fun d hd => by
    have hg := hok.good d hd
    unfold Good at hg
    rcases (adds_has none_ok l d).1 (.inr hd) with ⟨h, _⟩ | h
    · have := hc d h; omega
    · exact absurd h (none_has d))
  have h3 : (adds none l).extra.length ≤ 12 := by
    have h0 : none.extra.length = 0 := rfl
    omega
  unfold gaps
  omega
theorem gapsF_all {s : S} (h : Ok s) {m : Int} (hm : (gaps s).length ≤ m) : gapsF s m = gaps s := by
  unfold gapsF
  rw [if_pos (check_ok.2 h)]
  exact List.take_of_length_le (by omega)
theorem gapsF_none {s : S} (he : s.extra = []) (m : Int) : gapsF s m = [] := by
  unfold gapsF gaps
  rw [he]
  split <;> simp [gapsOf]
theorem len_ok {s : S} (h : Ok s) : len s = size s := if_pos (check_ok.2 h)
end DS

end Go.Proofs.Ytdgjjlffdfpkcaa
