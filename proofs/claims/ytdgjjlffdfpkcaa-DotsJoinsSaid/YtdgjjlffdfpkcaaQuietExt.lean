/- A region that draws its order, whose operations only read and whose callees let the world grow at most: one walk. -/
import Derived.Test.YtdgjjlffdfpkcaaDots
import Derived.BigQuiet
namespace Go.Proofs.Ytdgjjlffdfpkcaa
open Go.RowKit

/-- A world that has grown at most. -/
structure ExtOf (w : World) where
  to : World
  ext : Ext w to
instance (w : World) : Inhabited (ExtOf w) := ⟨⟨w, Ext.refl w⟩⟩

theorem wp_region_quiet_ext {P : Program} {id : Nat} {Q : Exit → Act → World → Prop} {a : Act} {w : World} {l : List Oper} (hm : P.follows .mixedOrders = true) (hB : Region.lexB .any l.toArray = true)
    (h : wpQuiet P l.toArray (fun w' => ∃ p : ExtOf w, w' = p.to) (fun a' => ∀ w', Ext w w' → Q .normal a' w') l a) : (Code.region id l.toArray true).wp P Q a w := by
  have hq : (fun a' => ∀ w', Ext w w' → Q .normal a' w') = (fun a' => ∀ w', (∃ p : ExtOf w, w' = p.to) → Q .normal a' w') :=
    funext fun a' => propext ⟨fun h w' ⟨p, hp⟩ => h w' (by rw [hp]; exact p.ext), fun h w' he => h w' ⟨⟨w', he⟩, rfl⟩⟩
  rw [hq] at h
  exact wp_region_quiet (C := fun w' => ∃ p : ExtOf w, w' = p.to) hm hB ⟨⟨_, (Ext.refl w).drew⟩, rfl⟩ (by simpa using h)

theorem calls_ext {P : Program} {f : FuncId} {args : Array Value} {w : World} {p : ExtOf w} {v : Value}
    (h : Calls P f args p.to fun e w' => e = .returned v ∧ Ext p.to w') : Calls P f args p.to fun e w'' => e = .returned v ∧ ∃ q : ExtOf w, w'' = q.to :=
  h.mono fun _ _ ⟨he, hx⟩ => ⟨he, ⟨_, p.ext.trans hx⟩, rfl⟩
theorem calls_ext_same {P : Program} {f : FuncId} {args : Array Value} {w : World} {p : ExtOf w} {v : Value}
    (h : Calls P f args p.to fun e w' => e = .returned v ∧ p.to = w') : Calls P f args p.to fun e w'' => e = .returned v ∧ ∃ q : ExtOf w, w'' = q.to :=
  h.mono fun _ _ ⟨he, hx⟩ => ⟨he, p, hx.symm⟩
theorem cell_ext {w : World} {a : Addr} {v : Value} (h : w.cell? a = some v) (p : ExtOf w) : p.to.cell? a = some v := p.ext.cell h
theorem frozen_ext {w : World} {a : Addr} {v : Value} {r : Bool} (h : w.cell? a = some v) (hf : w.frozen? a = r) (p : ExtOf w) : p.to.frozen? a = r := by rw [p.ext.frozen h]; exact hf

end Go.Proofs.Ytdgjjlffdfpkcaa
