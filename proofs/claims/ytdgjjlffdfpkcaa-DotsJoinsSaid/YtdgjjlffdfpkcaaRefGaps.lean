/- The document's gaps, dot by dot. What the document's Gaps of a set answers. -/
import Derived.Test.YtdgjjlffdfpkcaaDotsGapsPlain
import Derived.Test.YtdgjjlffdfpkcaaSetGaps
import Derived.Test.YtdgjjlffdfpkcaaRefSetLen

namespace Go.Proofs.Ytdgjjlffdfpkcaa

namespace DS
/-- The document's gaps on the way: those of the first peers, and those of the next one below a count. -/
def gapsN (s : S) (k : Nat) (n : Int) : List Dot := gapsTo s k ++ (rng k (Vec.cnt s.base k + 1) n).filter fun d => decide (d ∉ s.extra)
theorem gapsN_start (s : S) (k : Nat) : gapsN s k (Vec.cnt s.base k + 1) = gapsTo s k := by
  unfold gapsN
  rw [rng_nil (Int.le_refl _), List.filter_nil, List.append_nil]
theorem gapsN_end (s : S) (k : Nat) (n : Int) (h : topOf k s.extra ≤ n) (h2 : n = Vec.cnt s.base k + 1 ∨ n ≤ topOf k s.extra) : gapsN s k n = gapsTo s (k + 1) := by
  unfold gapsN
  show _ = gapsTo s k ++ gapsAt s k
  unfold gapsAt
  rcases h2 with h2 | h2
  · rw [h2, rng_nil (Int.le_refl _), rng_nil (b := topOf k s.extra) (by omega)]
  · rw [show n = topOf k s.extra by omega]
theorem gapsN_step (s : S) (k : Nat) (n : Int) (h : Vec.cnt s.base k + 1 ≤ n) : gapsN s k (n + 1) = gapsN s k n ++ if ((k : Int), n) ∈ s.extra then [] else [((k : Int), n)] := by
  unfold gapsN
  rw [rng_snoc h, List.filter_append, List.append_assoc]
  congr 2
  by_cases hm : ((k : Int), n) ∈ s.extra
  · rw [if_pos hm, List.filter_cons_of_neg (by simpa using hm), List.filter_nil]
  · rw [if_neg hm, List.filter_cons_of_pos (by simpa using hm), List.filter_nil]
theorem rng_app {p a b c : Int} (h1 : a ≤ b) (h2 : b ≤ c) : rng p a c = rng p a b ++ rng p b c := by
  obtain ⟨m, rfl⟩ : ∃ m : Nat, c = b + m := ⟨(c - b).toNat, by omega⟩
  clear h2
  induction m with
  | zero => rw [rng_nil (a := b) (by omega), List.append_nil]; simp
  | succ m ih => rw [show b + ((m + 1 : Nat) : Int) = (b + m) + 1 by omega, rng_snoc (by omega), rng_snoc (by omega), ih, List.append_assoc]
theorem gapsN_prefix (s : S) (k : Nat) (n : Int) (h : Vec.cnt s.base k + 1 ≤ n) (h2 : n ≤ topOf k s.extra) : ∃ r, gapsTo s (k + 1) = gapsN s k n ++ r := by
  rw [← gapsN_end s k (topOf k s.extra) (Int.le_refl _) (.inr (Int.le_refl _))]
  unfold gapsN
  rw [rng_app h h2, List.filter_append]
  exact ⟨_, (List.append_assoc ..).symm⟩

/-- A row that is full stays; one that is not takes the next. -/
theorem take_full {α : Type} (l r : List α) (m : Nat) (h : m ≤ (l.take m).length) : (l ++ r).take m = l.take m := by
  rw [List.length_take] at h
  exact List.take_append_of_le_length (by omega)
theorem take_less {α : Type} (l : List α) (m : Nat) (h : (l.take m).length < m) : l.take m = l ∧ l.length < m := by
  rw [List.length_take] at h
  have : l.length < m := by omega
  exact ⟨List.take_of_length_le (by omega), this⟩
/-- One round: a dot that lacks is put where there is room. -/
theorem gaps_round (s : S) (k : Nat) (n : Int) (m : Nat) (h : Vec.cnt s.base k + 1 ≤ n) (hl : ((gapsN s k n).take m).length < m) : (gapsN s k (n + 1)).take m = (gapsN s k n).take m ++ if ((k : Int), n) ∈ s.extra then [] else [((k : Int), n)] := by
  obtain ⟨h1, h2⟩ := take_less _ _ hl
  rw [h1, gapsN_step s k n h]
  refine List.take_of_length_le ?_
  rw [List.length_append]
  split
  · simp; omega
  · simp; omega
/-- The peer's end. -/
theorem gaps_peer (s : S) (k : Nat) (n : Int) (m : Nat) (h : Vec.cnt s.base k + 1 ≤ n) (h2 : n = Vec.cnt s.base k + 1 ∨ n ≤ topOf k s.extra) (hl : topOf k s.extra ≤ n ∨ m ≤ ((gapsN s k n).take m).length) : (gapsN s k n).take m = (gapsTo s (k + 1)).take m := by
  rcases hl with hl | hl
  · rw [gapsN_end s k n hl h2]
  · by_cases ht : topOf k s.extra ≤ n
    · rw [gapsN_end s k n ht h2]
    · obtain ⟨r, hr⟩ := gapsN_prefix s k n h (by omega)
      rw [hr, take_full _ _ _ hl]
/-- The dots of the document's gaps may be kept. -/
theorem topOf_le (p : Int) (l : List Dot) (B : Int) (hB : 0 ≤ B) (h : ∀ d ∈ l, 0 ≤ d.2 ∧ d.2 ≤ B) : 0 ≤ topOf p l ∧ topOf p l ≤ B := by
  unfold topOf
  suffices ∀ t : Int, 0 ≤ t ∧ t ≤ B → 0 ≤ l.foldl (fun t d => if d.1 = p then d.2 else t) t ∧ l.foldl (fun t d => if d.1 = p then d.2 else t) t ≤ B from this 0 ⟨by omega, by omega⟩
  induction l with
  | nil => intro t ht; exact ht
  | cons d l ih =>
    intro t ht
    rw [List.foldl_cons]
    refine ih (fun x hx => h x (List.mem_cons_of_mem _ hx)) _ ?_
    split
    · exact h d (List.mem_cons_self ..)
    · exact ht
end DS

end Go.Proofs.Ytdgjjlffdfpkcaa

namespace Go.Proofs.Ytdgjjlffdfpkcaa
open Go.RowKit Go.Shelf

/-- The row of gaps so far. -/
structure GapR (w W : World) (v : Value) (out all : List Dot) : Prop where
  row : W.ownsRow w.heap.size 26 2 v out.length (dotCells out)
  ext : Ext w W
  eq : out = all
theorem GapR.more {w W W' : World} {v : Value} {out all : List Dot} (h : GapR w W v out all) (he : Ext W W') : GapR w W' v out all := ⟨row_to h.row he, h.ext.trans he, h.eq⟩

set_option maxRecDepth 100000 in
theorem ref_gaps_no (v : Value) (s : DS.S) (most : Int) (w : World) (h : SetV w v s) (h0 : DS.check s ≠ 0) :
    Calls Try.prog 19 #[v, .int .i64 most] w fun e w' => ∃ v', e = .returned v' ∧ DotsV w' v' [] ∧ Ext w w' := by
  have hsv := h
  obtain ⟨vb, ve, rfl, hb, he⟩ := h
  have hE : Ext w (w.alloc (.cells #[vb, ve] 24)) := (Ext.refl w).alloc _
  have c1 : (w.alloc (.cells #[vb, ve] 24)).cell? ⟨w.heap.size, 0, none⟩ = some vb := alloc_cell w _ _ 0
  have c2 : (w.alloc (.cells #[vb, ve] 24)).cell? ⟨w.heap.size, 1, none⟩ = some ve := alloc_cell w _ _ 1
  have hck := ref_set_check _ s _ (hsv.ext hE)
  obtain ⟨pb, cb, rfl, _⟩ := hb
  obtain ⟨pe, ce, rfl, _⟩ := he
  obtain ⟨q, hq⟩ : ∃ q, DS.check s = q := ⟨_, rfl⟩
  rw [hq] at hck h0
  have HC := Lib.hid hck
  have hq0 : ((q : Int) != 0) = true := by rw [bne_iff_ne]; omega
  clear hck hsv hq h0
  generalize s.base.length = nb at *
  generalize s.extra.length = ne at *
  go_enter Try.func19, Try.ntmps19
  go_wp2_with fail
  refine HC.out.mono ?_
  rintro e w1 ⟨rfl, g1⟩
  go_wp2
  go_ret
  exact ⟨_, rfl, ⟨none, 0, rfl, by simp, by unfold maxLen; omega, rfl, by simp, by simp, .inl rfl⟩, hE.trans g1⟩

set_option maxRecDepth 100000 in
set_option maxHeartbeats 4000000 in
theorem ref_gaps_yes (v : Value) (s : DS.S) (most : Int) (w : World) (h : SetV w v s) (hok : DS.Ok s) (hm : most ≤ 1000) :
    Calls Try.prog 19 #[v, .int .i64 most] w fun e w' => ∃ v', e = .returned v' ∧ DotsV w' v' ((DS.gaps s).take most.toNat) ∧ Ext w w' := by
  have hsv := h
  obtain ⟨vb, ve, rfl, hb, he⟩ := h
  have hE : Ext w (w.alloc (.cells #[vb, ve] 24)) := (Ext.refl w).alloc _
  have c1 : (w.alloc (.cells #[vb, ve] 24)).cell? ⟨w.heap.size, 0, none⟩ = some vb := alloc_cell w _ _ 0
  have c2 : (w.alloc (.cells #[vb, ve] 24)).cell? ⟨w.heap.size, 1, none⟩ = some ve := alloc_cell w _ _ 1
  have hck := ref_set_check _ s _ (hsv.ext hE)
  rw [DS.check_ok.2 hok] at hck
  have hget : ∀ p w1, Ext w w1 → Calls Try.prog 33 #[vb, .int .i64 p] w1 fun e w' => e = .returned (.int .i64 (Vec.cnt s.base p)) ∧ Ext w1 w' := fun p w1 hx => by
    have := ref_get vb s.base p w1 (hb.ext hx)
    unfold getL at this
    rw [if_pos (Vec.check_ok.2 hok.vec)] at this
    exact this
  have hin : ∀ (d : Dot) w1, Ext w w1 → Calls Try.prog 37 #[ve, .agg #[.int .i64 d.1, .int .i64 d.2]] w1 fun e w' => e = .returned (.bool (decide (d ∈ s.extra))) ∧ Ext w1 w' := fun d w1 hx => ref_in ve s.extra d w1 (he.ext hx)
  obtain ⟨i0, hi, hz0, hz1, hz2⟩ := info_parts info_dot'
  have Hi := Lib.hid hi
  have HG := Lib.hid hget
  have HIN := Lib.hid hin
  have HC := Lib.hid hck
  obtain ⟨pb, cb, rfl, _⟩ := hb
  obtain ⟨pe, ce, rfl, _, _, he⟩ := he
  have hDA : ∀ i (h : i < s.extra.length), ∃ b off, pe = some ⟨b, off, none⟩ ∧ DotsAt w b off s.extra := fun i h => by
    rcases he.2.2.2 with h0 | h0
    · omega
    · exact h0
  have hlen : s.extra.length ≤ 70368744177664 := he.2.1
  have HDA := Lib.hid hDA
  clear hck hget hin hi he hsv hDA
  have hgall : ∀ k, k = 64 → DS.gapsTo s k = DS.gaps s := fun k hk => by rw [hk]; exact DS.gaps_eq hok
  have HALL := Lib.hid hgall
  have HFIT := Lib.hid (fun (d : Dot) (hd : d ∈ DS.gaps s) => (DS.gap_good hok hd).1.fit)
  clear hgall
  obtain ⟨m, hmn⟩ : ∃ m, most.toNat = m := ⟨_, rfl⟩
  rw [hmn]
  have HM := Lib.hid hmn
  have hm1 : m ≤ 1000 := by omega
  have HTOP := Lib.hid (fun (p : Int) => DS.topOf_le p s.extra 1048576 (by omega) fun d hd => by have := hok.good d hd; unfold DS.Good at this; omega)
  have HCN := Lib.hid (fun (p : Int) => And.intro (Vec.cnt_nonneg hok.vec p) (Vec.cnt_le hok.vec p))
  clear hmn
  generalize hnb : s.base.length = nb at *
  clear hnb
  obtain ⟨ne, hne⟩ : ∃ ne, s.extra.length = ne := ⟨_, rfl⟩
  rw [hne] at hE c1 c2 HC hlen HIN
  rw [hne]
  have HNE := Lib.hid hne
  clear hne hok
  go_enter Try.func19, Try.ntmps19
  go_wp2_with fail
  refine HC.out.mono ?_
  rintro e w1 ⟨rfl, g1⟩
  have k1 := g1.cell c1
  have k2 := g1.cell c2
  have hE1 := hE.trans g1
  clear HC c1 c2 g1 hE
  go_wp2
  go_loopw [5, 6] (fun ov i wr => ∃ (k : Nat) (out : List Dot), k ≤ 64 ∧ i = .int .i64 k ∧ GapR w1 wr ov out ((DS.gapsTo s k).take m)) (fun _ i _ => 64 - (intOf i).toNat)
  case atStart => exact ⟨0, [], by omega, rfl, World.ownsRow_nil _ _ _ _, Ext.refl _, List.take_nil.symm⟩
  case round =>
    obtain ⟨k, out, hk, rfl, hI⟩ := hrel
    obtain ⟨wo, hwo⟩ : ∃ wo, wo = wr := ⟨_, rfl⟩
    subst hwo
    obtain ⟨p1, q1, rfl⟩ := row_slice hI.row
    have hx := hI.ext
    by_cases hlt : k < 64
    · have a1 := hx.cell k1
      have a2 := hx.cell k2
      go_wp2
      go_loopw [7, 8] (fun tv iv wq => ∃ (j : Nat), j ≤ ne ∧ iv = .int .i64 j ∧ tv = .int .i64 (DS.topOf k (s.extra.take j)) ∧ Ext wo wq) (fun _ iv _ => ne - (intOf iv).toNat)
      case atStart => exact ⟨0, by omega, rfl, rfl, Ext.refl _⟩
      case round =>
        obtain ⟨j, hj, rfl, rfl, hy⟩ := hrel
        have b2 := hy.cell a2
        by_cases hjn : j < ne
        · have hje : j < s.extra.length := by rw [HNE.out]; exact hjn
          obtain ⟨b, off, rfl, hat⟩ := HDA.out j hje
          have b3 := hy.cell (hx.cell (hE1.cell (hat j hje).1))
          have b4 := hy.cell (hx.cell (hE1.cell (hat j hje).2))
          have hnx := take_next s.extra j hje
          have hto := DS.topOf_next k (s.extra.take j) s.extra[j]
          rw [← hnx] at hto
          generalize s.extra[j] = d at *
          generalize DS.topOf k (s.extra.take j) = T at *
          have HTO := Lib.hid hto
          clear hto hnx hat
          by_cases hp : d.1 = k
          · have hpp : (d.1 == (k : Int)) = true := by rw [beq_iff_eq]; exact hp
            have HP := Lib.hid hp
            clear hp
            go_wp2
            go_roundw
            case rel => exact ⟨j + 1, by omega, by go_num, by rw [HTO.out, if_pos HP.out], hy⟩
            case measure => simp [intOf]; omega
          · have hpp : (d.1 == (k : Int)) = false := by rw [beq_eq_false_iff_ne]; exact hp
            have HP := Lib.hid hp
            clear hp
            go_wp2
            go_roundw
            case rel => exact ⟨j + 1, by omega, by go_num, by rw [HTO.out, if_neg HP.out], hy⟩
            case measure => simp [intOf]; omega
        · obtain rfl : j = ne := by omega
          rw [List.take_of_length_le (by rw [HNE.out]; omega)]
          have htop := HTOP.out k
          generalize hT : DS.topOf k s.extra = T at *
          have HT := Lib.hid hT
          clear hT
          have b1 := hy.cell a1
          go_wp2_with fail
          refine (HG.out k _ (hE1.trans (hx.trans hy))).mono ?_
          rintro e w3 ⟨rfl, g3⟩
          have hcn := HCN.out k
          generalize hC : Vec.cnt s.base k = C at *
          have HC2 := Lib.hid hC
          clear hC
          have hI3 := hI.more (hy.trans g3)
          have c2 := g3.cell b2
          have hst : DS.gapsN s k (C + 1) = DS.gapsTo s k := by rw [← HC2.out]; exact DS.gapsN_start s k
          rw [← hst] at hI3
          have HST := Lib.hid hst
          have HI3 := Lib.hid hI3
          have E3 := Lib.hid (hE1.trans ((hx.trans hy).trans g3))
          clear hI hst hI3 a1 a2 b1 b2 hx hy g3
          go_wp2
          go_loopw [5, 9] (fun ov nv wr => ∃ (n : Int) (out2 : List Dot), nv = .int .i64 n ∧ C + 1 ≤ n ∧ (n = C + 1 ∨ n ≤ T) ∧ GapR w1 wr ov out2 ((DS.gapsN s k n).take m)) (fun _ nv _ => (T - intOf nv).toNat)
          case atStart => exact ⟨C + 1, out, rfl, by omega, .inl rfl, HI3.out⟩
          case round =>
            obtain ⟨n, out2, rfl, hn1, hn2, hJ⟩ := hrel
            have hz := hJ.ext
            obtain ⟨p2, q2, rfl⟩ := row_slice hJ.row
            have d2 := hz.cell k2
            have hml := HM.out
            have hpeer := DS.gaps_peer s k n m (by rw [HC2.out]; exact hn1) (by rw [HC2.out, HT.out]; exact hn2)
            rw [HT.out] at hpeer
            have HPEER := Lib.hid hpeer
            have HJ := Lib.hid hJ
            have hJe := Lib.hid hJ.eq
            clear hpeer hJ
            by_cases hlt2 : n < T
            · by_cases hroom : (out2.length : Int) < most
              · have hround := DS.gaps_round s k n m (by rw [HC2.out]; exact hn1) (by rw [← hJe.out]; omega)
                rw [← hJe.out] at hround
                have hin := HIN.out ((k : Int), n) (wr.alloc (.cells #[.int .i64 k, .int .i64 n] 26)) ((hE1.trans hz).alloc _)
                have d3 := ((Ext.refl wr).alloc (.cells #[.int .i64 k, .int .i64 n] 26)).cell d2
                obtain ⟨bb, hbb⟩ : ∃ bb, decide (((k : Int), n) ∈ s.extra) = bb := ⟨_, rfl⟩
                rw [hbb] at hin
                have hround2 : (DS.gapsN s k (n + 1)).take m = out2 ++ if bb then [] else [((k : Int), n)] := by
                  rw [hround]
                  cases bb with
                  | true => rw [if_pos (of_decide_eq_true hbb)]; rfl
                  | false => rw [if_neg (of_decide_eq_false hbb)]; rfl
                have HROUND := Lib.hid hround2
                have HI4 := Lib.hid hin
                have hb1 : out2.length + 1 ≤ maxLen := by unfold maxLen; omega
                have hb2 : (out2.length + 1) * 16 ≤ 140737488355328 := by omega
                have hal : Ext wr (wr.alloc (.cells #[.int .i64 k, .int .i64 n] 26)) := (Ext.refl _).alloc _
                have hs1 : w1.heap.size ≤ wr.heap.size := HJ.out.ext.size
                have hd0 := Two.new wr 26 (.int .i64 k) (.int .i64 n)
                clear hround hround2 hbb hin hml
                go_wp2_with fail
                refine HI4.out.mono ?_
                rintro e w5 ⟨rfl, g5⟩
                have e1 := (hd0.ext g5).c0
                have e2 := (hd0.ext g5).c1
                cases bb with
                | true =>
                  go_wp2
                  go_roundw
                  case rel => exact ⟨n + 1, out2, by first | rfl | go_num, by omega, .inr (by omega), ⟨row_to HJ.out.row (hal.trans g5), HJ.out.ext.trans (hal.trans g5), by rw [HROUND.out]; simp⟩⟩
                  case measure => simp [intOf]; omega
                | false =>
                  have g6 := hal.trans g5
                  have hs5 : w1.heap.size ≤ w5.heap.size := Nat.le_trans hs1 g6.size
                  have hnew : ∀ j u, [Value.int .i64 k, Value.int .i64 n][j]? = some u → (w5.alloc (.cells #[.int .i64 k, .int .i64 n] 26)).cell? ((⟨w5.heap.size, 0, none⟩ : Addr).add j) = some u := cell_two_new w5 _ _ _
                  have HROW := Lib.hid ((row_to HJ.out.row g6).alloc (.cells #[.int .i64 k, .int .i64 n] 26))
                  have hb3 : w1.heap.size ≤ (w5.alloc (.cells #[.int .i64 k, .int .i64 n] 26)).heap.size := by rw [World.size_alloc]; omega
                  have happ := Lib.hid (dotCells_app out2 ((k : Int), n))
                  have HG6 := Lib.hid g6
                  clear g6 g5 hal hd0
                  go_wp2_with (at_builtin; refine wpList_append_own_at _ rfl _ _ 22 rfl w1.heap.size 26 i0 (dotV (0, 0)) 2 16 Try.underlying22 Hi.out hz0 hz1 hz2 rfl (by decide) _ _ _ rfl HROW.out ⟨w5.heap.size, 0, none⟩ 1 1 [.int .i64 k, .int .i64 n] rfl rfl hnew (by simp [Value.oneCell']) hb1 hb2 hb3 ?_; intro v' w6 hown' hgrow _ hat)
                  go_roundw
                  case rel =>
                    have ha : Ext w5 (w5.alloc (.cells #[.int .i64 k, .int .i64 n] 26)) := (Ext.refl _).alloc _
                    have hx6 := ext_grownV (HJ.out.ext.trans (HG6.out.trans ha)) HROW.out hgrow (Nat.le_refl _)
                    refine ⟨n + 1, out2 ++ [((k : Int), n)], by first | rfl | go_num, by omega, .inr (by omega), ⟨?_, hx6, by rw [HROUND.out]; simp⟩⟩
                    rw [happ.out, List.length_append]; exact hown'
                  case measure => simp [intOf]; omega
              · have hdd : decide ((out2.length : Int) < most) = false := decide_eq_false hroom
                have hfin := HPEER.out (.inr (by rw [← hJe.out]; omega))
                have HFIN := Lib.hid hfin
                clear hfin hml
                go_wp2
                go_roundw
                case rel => exact ⟨k + 1, out2, by omega, by go_num, ⟨HJ.out.row, HJ.out.ext, by rw [← HFIN.out]; exact HJ.out.eq⟩⟩
                case measure => simp [intOf]; omega
            · have hfin := HPEER.out (.inl (by omega))
              have hdd : decide (n < T) = false := decide_eq_false hlt2
              have HFIN := Lib.hid hfin
              clear hfin hml
              go_wp2
              go_roundw
              case rel => exact ⟨k + 1, out2, by omega, by go_num, ⟨HJ.out.row, HJ.out.ext, by rw [← HFIN.out]; exact HJ.out.eq⟩⟩
              case measure => simp [intOf]; omega
    · obtain rfl : k = 64 := by omega
      have hres : DotsV wo (.slice p1 out.length q1) ((DS.gaps s).take m) := by
        have e := hI.eq
        rw [HALL.out _ rfl] at e
        rw [← e]
        exact row_dots hI.row (fun y hy => HFIT.out y (List.mem_of_mem_take (by rw [← e]; exact hy))) (by rw [e, List.length_take]; omega)
      have HRES := Lib.hid hres
      have HX := Lib.hid (hE1.trans hx)
      clear hres hI
      go_wp2
      go_ret
      exact ⟨_, rfl, HRES.out, HX.out⟩

end Go.Proofs.Ytdgjjlffdfpkcaa
