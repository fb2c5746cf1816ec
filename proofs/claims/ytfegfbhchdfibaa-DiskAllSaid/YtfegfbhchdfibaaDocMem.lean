/- The document's files: a slice of names and bytes; what the document's find, Bytes, without say. -/
import Derived.Test.YtfegfbhchdfibaaSafeRows
import Derived.Test.YtfegfbhchdfibaaSafePlain
import Derived.Test.YtfegfbhchdfibaaQuietG
namespace Go.Proofs.Ytfegfbhchdfibaa
open Go.RowKit

def fCells (l : DK.Files) : List Value := l.flatMap fun p => [.string p.1, .string p.2]
theorem fCells_length (l : DK.Files) : (fCells l).length = l.length * 2 := by
  unfold fCells
  induction l with
  | nil => rfl
  | cons x l ih => rw [List.flatMap_cons, List.length_append, ih, List.length_cons]; simp; omega
theorem fCells_snoc (l : DK.Files) (a s : ByteArray) : fCells l ++ [.string a, .string s] = fCells (l ++ [(a, s)]) := by unfold fCells; rw [List.flatMap_append]; rfl
theorem fCells_at (l : DK.Files) (i : Nat) (h : i < l.length) : (fCells l)[i * 2]? = some (.string l[i].1) ∧ (fCells l)[i * 2 + 1]? = some (.string l[i].2) := by
  induction l generalizing i with
  | nil => exact absurd h (Nat.not_lt_zero _)
  | cons x l ih =>
    cases i with
    | zero => exact ⟨rfl, rfl⟩
    | succ i =>
      have h1 := ih i (by simpa using h)
      have e1 : (i + 1) * 2 = i * 2 + 1 + 1 := by omega
      rw [e1]
      exact h1
def FsAt (w : World) (b o : Nat) (l : DK.Files) : Prop := ∀ i (h : i < l.length), w.cell? ⟨b, o + i * 2, none⟩ = some (.string l[i].1) ∧ w.cell? ⟨b, o + i * 2 + 1, none⟩ = some (.string l[i].2)
theorem FsAt.ext {w w' : World} {b o : Nat} {l : DK.Files} (h : FsAt w b o l) (he : Ext w w') : FsAt w' b o l := fun i hi => ⟨he.cell (h i hi).1, he.cell (h i hi).2⟩
/-- A value that is a slice of files. -/
def FsV (w : World) (v : Value) (l : DK.Files) : Prop := ∃ p c, v = .slice p l.length c ∧ l.length ≤ 1073741824 ∧ (l.length = 0 ∨ ∃ b o, p = some ⟨b, o, none⟩ ∧ FsAt w b o l)
theorem FsV.ext {w w' : World} {v : Value} {l : DK.Files} (h : FsV w v l) (he : Ext w w') : FsV w' v l := by
  obtain ⟨p, c, h1, h2, h3⟩ := h
  exact ⟨p, c, h1, h2, h3.imp id fun ⟨b, o, hp, hs⟩ => ⟨b, o, hp, hs.ext he⟩⟩
theorem FsV.nil (w : World) : FsV w (.slice none 0 0) [] := ⟨none, 0, rfl, by simp, .inl rfl⟩
theorem row_files {W : World} {base n : Nat} {v : Value} {l : DK.Files} (h : W.ownsRow base 83 2 v n (fCells l)) (hn : l.length = n) (hl : n ≤ 1073741824) : FsV W v l := by
  subst hn
  rcases h.2 with ⟨rfl, h0⟩ | ⟨g, cap, cur, rfl, hb, hg, hn, hc, hs, hx⟩
  · have : l = [] := List.length_eq_zero_iff.1 h0
    subst this
    exact FsV.nil W
  · refine ⟨_, cap, rfl, hl, .inr ⟨g, 0, rfl, fun i hi => ?_⟩⟩
    have k1 := h.cellAt (i * 2) (by omega)
    have k2 := h.cellAt (i * 2 + 1) (by omega)
    obtain ⟨f1, f2⟩ := fCells_at l i hi
    rw [Nat.zero_add, k1, k2]
    exact ⟨f1, f2⟩
/-- A value that lies in no block of a world. -/
def New (w : World) (v : Value) : Prop := ∀ b, v.ownBlock = some b → w.heap.size ≤ b
theorem New.from_ {w w1 : World} {v : Value} (h : New w1 v) (he : Ext w w1) : New w v := fun b hb => Nat.le_trans he.size (h b hb)
theorem New.nil (w : World) (n c : Nat) : New w (.slice none n c) := fun b e => by cases e
theorem row_new {W w : World} {t : TypeId} {k n : Nat} {v : Value} {xs : List Value} (h : W.ownsRow w.heap.size t k v n xs) : New w v := by
  rcases h.2 with ⟨rfl, _⟩ | ⟨g, cap, cur, rfl, hb, _⟩
  · exact New.nil _ _ _
  · intro b e
    have e : g = b := by simpa [Value.ownBlock] using e
    omega
theorem info_file : (Try.prog.info? 83).map (fun i => (i.zero, i.size, i.bytes)) = some (some (.agg #[.string ByteArray.empty, .string ByteArray.empty]), 2, 32) := by kernel_rfl
theorem two_new (w : World) (x y : Value) (t : TypeId) : ∀ j u, [x, y][j]? = some u → (w.alloc (.cells #[x, y] t)).cell? ((⟨w.heap.size, 0, none⟩ : Addr).add j) = some u := by
  intro j u hj
  match j, hj with
  | 0, hj => simp at hj; subst hj; exact alloc_cell w _ _ 0
  | 1, hj => simp at hj; subst hj; exact alloc_cell w _ _ 1
  | j + 2, hj => simp at hj

/-- The place of a file. -/
def findI (l : DK.Files) (n : ByteArray) : Int := match l.findIdx? fun p => decide (p.1 = n) with | some i => i | none => -1
theorem findI_step (l : DK.Files) (n : ByteArray) : (∀ p ∈ l, p.1 ≠ n) → findI l n = -1 := fun h => by
  unfold findI
  rw [List.findIdx?_eq_none_iff.2 fun p hp => decide_eq_false (h p hp)]
theorem findI_at (l : DK.Files) (n : ByteArray) (k : Nat) (hk : k < l.length) (h0 : ∀ p ∈ l.take k, p.1 ≠ n) (h1 : l[k].1 = n) : findI l n = k := by
  unfold findI
  have : l.findIdx? (fun p => decide (p.1 = n)) = some k := by
    rw [List.findIdx?_eq_some_iff_getElem]
    refine ⟨hk, decide_eq_true h1, fun j hj => ?_⟩
    have hm : l[j] ∈ l.take k := by
      rw [List.mem_take_iff_getElem]
      exact ⟨j, by omega, rfl⟩
    rw [decide_eq_false (h0 _ hm)]
    simp
  rw [this]
theorem findI_has (l : DK.Files) (n : ByteArray) : (DK.has l n = false ∧ findI l n = -1) ∨ (DK.has l n = true ∧ ∃ k, ∃ h : k < l.length, findI l n = (k : Int) ∧ l[k].1 = n ∧ DK.get l n = l[k].2) := by
  cases hf : l.findIdx? (fun p => decide (p.1 = n)) with
  | none =>
    left
    have h1 := List.findIdx?_eq_none_iff.1 hf
    refine ⟨?_, by unfold findI; rw [hf]⟩
    unfold DK.has
    rw [List.any_eq_false]
    intro p hp
    rw [h1 p hp]
    simp
  | some k =>
    right
    obtain ⟨hk, h1, h2⟩ := List.findIdx?_eq_some_iff_getElem.1 hf
    have h1 : l[k].1 = n := of_decide_eq_true h1
    have hfd : l.find? (fun p => decide (p.1 = n)) = some l[k] := by
      rw [List.find?_eq_some_iff_getElem]
      exact ⟨decide_eq_true h1, k, hk, rfl, fun j hj => by simpa using h2 j hj⟩
    refine ⟨?_, k, hk, by unfold findI; rw [hf], h1, by unfold DK.get; rw [hfd]; rfl⟩
    rw [DK.has_look]
    unfold DK.look
    rw [hfd]
    rfl

theorem txt_ne {a b : ByteArray} (h : a ≠ b) : (a.toList == b.toList) = false ∧ (a.toList != b.toList) = true := by
  have h1 : (a.toList == b.toList) = false := beq_eq_false_iff_ne.2 fun e => h (by
    rw [ByteArray.toList_eq, ByteArray.toList_eq] at e
    exact WideShapes.bytes_inj e)
  exact ⟨h1, by rw [bne, h1]; rfl⟩

set_option maxRecDepth 100000 in
theorem ref_find {w : World} {v : Value} {l : DK.Files} (hv : FsV w v l) (n : ByteArray) :
    Calls Try.prog 58 #[v, .string n] w fun e w' => e = .returned (.int .i64 (findI l n)) ∧ w = w' := by
  obtain ⟨p, c, rfl, hlen, h0⟩ := hv
  have HV : Hid (l.length = 0 ∨ ∃ b o, p = some ⟨b, o, none⟩ ∧ FsAt w b o l) := h0
  clear h0
  obtain ⟨m, hm⟩ : ∃ m, l.length = m := ⟨_, rfl⟩
  have HM := Lib.hid hm
  rw [hm] at hlen HV ⊢
  clear hm
  obtain ⟨fi, hfe⟩ : ∃ fi, findI l n = fi := ⟨_, rfl⟩
  rw [hfe]
  have HFE := Lib.hid hfe
  clear hfe
  go_enter Try.func58, Try.ntmps58
  go_wp2
  go_loopw [5] (fun iv W => ∃ k : Nat, k ≤ m ∧ iv = .int .i64 k ∧ Hid (∀ x ∈ l.take k, x.1 ≠ n) ∧ w = W) (fun iv _ => m - (intOf iv).toNat)
  case atStart => exact ⟨0, by omega, rfl, Lib.hid (fun x hx => by cases hx), rfl⟩
  case round =>
    obtain ⟨k, hk, rfl, HNO, rfl⟩ := hrel
    by_cases hlt : k < m
    · have hkl : k < l.length := by rw [HM.out]; exact hlt
      obtain ⟨b, o, rfl, hs⟩ : ∃ b o, p = some ⟨b, o, none⟩ ∧ FsAt w b o l := by
        rcases HV.out with h | h
        · omega
        · exact h
      have q1 := (hs k hkl).1
      have htk := take_next l k hkl
      have hfi := findI_at l n k hkl HNO.out
      generalize l[k] = x at *
      obtain ⟨a, s⟩ := x
      simp only at q1 hfi
      by_cases he : a = n
      · subst he
        have t1 : (a.toList == a.toList) = true := by simp
        obtain rfl : fi = (k : Int) := by rw [← HFE.out]; exact hfi rfl
        clear hs htk hfi
        go_wp2
        go_ret
        exact ⟨rfl, rfl⟩
      · have t1 := (txt_ne he).1
        have HTK := Lib.hid htk
        clear hs htk hfi
        go_wp2
        go_roundw
        case rel => exact ⟨k + 1, by omega, by go_num, Lib.hid (fun x hx => by
          rw [HTK.out] at hx
          rcases List.mem_append.1 hx with h | h
          · exact HNO.out x h
          · obtain rfl : x = (a, s) := by simpa using h
            exact he), by first | rfl | trivial⟩
        case measure => simp [intOf]; omega
    · obtain rfl : k = m := by omega
      have hno := HNO.out
      rw [List.take_of_length_le (by rw [HM.out]; exact Nat.le_refl _)] at hno
      obtain rfl : fi = -1 := by rw [← HFE.out]; exact findI_step l n hno
      clear hno
      go_wp2
      go_ret
      exact ⟨rfl, rfl⟩

set_option maxRecDepth 100000 in
theorem ref_bytes {w : World} {v : Value} {l : DK.Files} (hv : FsV w v l) (n : ByteArray) :
    Calls Try.prog 59 #[v, .string n] w fun e w' => e = .returned (.string (DK.get l n)) ∧ w = w' := by
  have hf := ref_find hv n
  obtain ⟨p, c, rfl, hlen, h0⟩ := hv
  rcases findI_has l n with ⟨h1, h2⟩ | ⟨h1, k, hk, h2, h3, h4⟩
  · rw [h2] at hf
    have hg : DK.get l n = ByteArray.empty := by
      rw [DK.has_look] at h1
      rw [DK.get_look]
      cases hl : DK.look l n with
      | none => rfl
      | some x => rw [hl] at h1; cases h1
    rw [hg]
    have HF := Lib.hid hf
    generalize l.length = m at *
    clear hf h0 h1 h2 hg
    go_enter Try.func59, Try.ntmps59
    go_wp2_with fail
    refine HF.out.mono ?_
    rintro e w' ⟨rfl, rfl⟩
    go_wp2
    go_ret
    exact ⟨rfl, rfl⟩
  · rw [h2] at hf
    rw [h4]
    obtain ⟨b, o, rfl, hs⟩ : ∃ b o, p = some ⟨b, o, none⟩ ∧ FsAt w b o l := by
      rcases h0 with h | h
      · omega
      · exact h
    have q1 := (hs k hk).2
    generalize l[k] = x at *
    obtain ⟨a, s⟩ := x
    simp only at q1
    have HF := Lib.hid hf
    generalize l.length = m at *
    clear hf hs h1 h2 h3 h4
    go_enter Try.func59, Try.ntmps59
    go_wp2_with fail
    refine HF.out.mono ?_
    rintro e w' ⟨rfl, rfl⟩
    go_wp2
    go_ret
    exact ⟨rfl, rfl⟩
end Go.Proofs.Ytfegfbhchdfibaa
