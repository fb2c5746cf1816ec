/- A range over a function whose iterator keeps a state of its own, and whose round lays its variables' memory ahead of the body. -/
import Derived.Test.YtdgjjlffdfpkcaaRangeTu
namespace Go.Proofs.Ytdgjjlffdfpkcaa
open Go.RowKit Go.Shelf

variable {F : Fence} {n : Nat} {P : Program}

theorem range_tw {α : Type} {g : Operand} {ps : Array Tmp} {assign body : Code} {Q : Exit → Act → World → Prop} {a : Act} {w : World}
    (hro : F.round = none) (h1 : 1 ≤ n) {gf : Nat} {lb : Array Value} (hg : a.eval g = .func (.func gf) #[] lb) (hFg : F.fn gf) (eg : ∀ args w, (callFunc gf args).run P w = .ok (.enter gf args) w)
    {encs : α → Array Value} {Bs Ks : Nat → Prop} {xs : List α} (hseq : SeqTu F (n - 1) P gf lb encs Bs Ks xs w) (hKs : ∀ B, Ks B → B < w.heap.size) (hBs : ∀ B, Bs B → B < w.heap.size) (hps : ∀ x, (encs x).size = ps.size)
    (I : List α → World → Prop) (hIt : ∀ pre W W', Turned Bs W W' → I pre W → I pre W')
    (hIp : ∀ pre W l o r, I pre W → w.heap.size ≤ l → W.heap[l]? = some (.loop r) → I pre (W.putObj l o)) (h0 : I [] w) (a₁ : α → World → Act) (w₁ : α → World → World)
    (hassign : ∀ (l : Nat) (x : α) (W : World) (K : Act → World → Prop), K (a₁ x W) (w₁ x W) →
      assign.wpIn (F.inRound l) (n - 1 - 1) P (Exit.then K (fun _ _ _ => False)) { tmps := (ps.zip (encs x)).foldl (fun t (p, v) => t.setIfInBounds p v) a.tmps, defers := [] } W)
    (hw₁ : ∀ (pre : List α) (x : α) (W : World), I pre W → I pre (w₁ x W) ∧ KeepsOthers W (w₁ x W) ∧ ∀ B, Ks B → (w₁ x W).heap[B]? = W.heap[B]?)
    (hbody : ∀ (l : Nat) (pre : List α) (x : α) (rest : List α) (W : World) (o : Obj) (r : Loop), xs = pre ++ x :: rest → I pre W → (w₁ x W).heap[l]? = some (.loop r) → w.heap.size ≤ l → I pre ((w₁ x W).putObj l o) →
      body.wpIn (F.inRound l) (n - 1 - 1) P (tuPost Ks I (pre ++ [x]) ((w₁ x W).putObj l o)) (a₁ x W) ((w₁ x W).putObj l o))
    (hdone : ∀ (D : Nat) (W : World), w.heap.size ≤ D → I xs W → W.heap[D]? = some (.deferred (some [])) → Q .normal { a with defers := { target := .collected D, args := #[] } :: a.defers } W) :
    (Code.rangeFunc g ps assign body).wpIn F n P Q a w := by
  refine wpIn_rangeFunc ?_
  intro fn hfn
  rw [hro]
  obtain ⟨rec, hrec⟩ : ∃ rec : LoopState → Option Code → Loop, rec = fun st pe => { state := st, pending := pe, fn, tmps := a.tmps, params := ps, assign, body, defers := w.heap.size } := ⟨_, rfl⟩
  obtain ⟨W1, hW1⟩ : ∃ W1, (w.alloc (.deferred (some []))).alloc (.loop (rec .ready none)) = W1 := ⟨_, rfl⟩
  have hL1 : W1.heap[w.heap.size + 1]? = some (.loop (rec .ready none)) := by
    rw [← hW1]; have := World.alloc_heap_new (w.alloc (.deferred (some []))) (.loop (rec .ready none)); rwa [World.size_alloc] at this
  have hK1 : W1.heap[w.heap.size]? = some (.deferred (some [])) := by
    rw [← hW1]; exact (Below.heap_alloc _ _ _ (by simp)).trans (World.alloc_heap_new w _)
  have hI1 : I [] W1 := by rw [← hW1]; exact hIt _ _ _ (((Turned.refl _ _).alloc _).alloc _) h0
  have hS1 : w.heap.size ≤ W1.heap.size := by rw [← hW1, World.size_alloc, World.size_alloc]; omega
  have hB1 : ∀ B, Ks B → W1.heap[B]? = w.heap[B]? := fun B hB => by
    have this := hKs B hB
    rw [← hW1, Below.heap_alloc _ _ _ (by simp; omega), Below.heap_alloc _ _ _ this]
  refine ⟨w.heap.size + 1, [{ target := .collected w.heap.size, args := #[] }], W1, { target := .fn (.func gf) lb, args := #[.func (.yield (w.heap.size + 1)) #[] #[]] }, W1, gf,
    #[.func (.yield (w.heap.size + 1)) #[] #[]] ++ lb, W1, ?_, ?_, ?_, ?_, fun _ => h1, ?_⟩
  · rw [← hW1, hrec]; exact run_enterLoop_outer _ _ _ _ _
  · simp only [resolve, hg]
    simp [go_sem]
  · intro f' hf'; simp [Target.leads] at hf'; subst hf'; exact hFg
  · simp [invoke, go_sem, eg]
  · refine (hseq (w.heap.size + 1)
      (fun pre W => I pre W ∧ W.heap[w.heap.size + 1]? = some (.loop (rec .ready none)) ∧ W.heap[w.heap.size]? = some (.deferred (some []))) W1 ?_ ?_ ⟨hI1, hL1, hK1⟩ hS1 hB1).mono ?_
    · rintro pre W2 W3 ht ⟨hi, hl, hk⟩
      exact ⟨hIt _ _ _ ht hi, (ht.block _ (Array.getElem?_eq_some_iff.1 hl).1 (fun hb => by have := hBs _ hb; omega)).trans hl,
        (ht.block _ (Array.getElem?_eq_some_iff.1 hk).1 (fun hb => by have := hBs _ hb; omega)).trans hk⟩
    · rintro pre x rest W hx ⟨hi, hl, hk⟩
      obtain ⟨i1, k1, b1⟩ := hw₁ pre x W hi
      have hl1 := k1.same _ _ hl rfl
      have hk1 := k1.same _ _ hk rfl
      have hlt : w.heap.size + 1 < (w₁ x W).heap.size := (Array.getElem?_eq_some_iff.1 hl1).1
      have hy := run_yield (P := P) (args := encs x) hl (by rw [hrec]; exact hps x)
      rw [hrec] at hy
      refine ⟨fn, _, assign, body, hy, roundIn_of_wpIn hfn (hassign _ x W _ ⟨_, run_beginRound hl1 (by rw [hrec]), ?_⟩)⟩
      have hl2 : ((w₁ x W).putObj (w.heap.size + 1) (.loop { rec .ready none with state := .busy })).heap[w.heap.size + 1]? = some (.loop { rec .ready none with state := .busy }) := World.putObj_heap_same hlt
      have hk2 : ((w₁ x W).putObj (w.heap.size + 1) (.loop { rec .ready none with state := .busy })).heap[w.heap.size]? = some (.deferred (some [])) := (World.putObj_heap_other (by omega)).trans hk1
      refine wpIn_mono (hbody _ pre x rest W _ _ hx hi hl1 (by omega) (hIp _ _ _ _ _ i1 (by omega) hl1)) ?_
      rintro e a3 W3 hp
      cases e with
      | normal =>
        obtain ⟨hk3, hB3, hi3⟩ := hp
        have hl3 := hk3.same _ _ hl2 rfl
        have hr := run_endRound (P := P) none hl3
        rw [hrec] at hr hl3
        refine ⟨_, _, hr, rfl, ⟨hIp _ _ _ _ _ hi3 (by omega) hl3, by rw [hrec]; exact World.putObj_heap_same (Array.getElem?_eq_some_iff.1 hl3).1, (World.putObj_heap_other (by omega)).trans (hk3.same _ _ hk2 rfl)⟩, ?_, ?_⟩
        · rw [World.putObj_size]; have := hk3.size; rw [World.putObj_size] at this; have := k1.size; omega
        · intro B hB
          have hlt2 := hKs B hB
          rw [World.putObj_heap_other (by omega), hB3 B hB, World.putObj_heap_other (by omega), b1 B hB]
      | ret => exact hp.elim
      | exit id => exact hp.elim
      | goto t => exact hp.elim
      | panic ch => exact hp.elim
      | outgrown => exact hp.elim
    · rintro e W2 ⟨⟨v, rfl⟩, hi, hl, hk⟩
      refine ⟨none, _, by have := run_endLoop (P := P) hl (by rw [hrec]; simp); rw [hrec] at this; exact this, ?_⟩
      exact hdone _ _ (Nat.le_refl _) (hIp _ _ _ _ _ hi (by omega) hl) ((World.putObj_heap_other (by omega)).trans hk)

end Go.Proofs.Ytdgjjlffdfpkcaa
