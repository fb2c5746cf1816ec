/- The iterator of a number's bytes: it tells them one by one, and keeps the number's rest in a cell of its own. -/
import Derived.Test.YthkccaifabpleaaChecked
import Derived.Test.YthkccaifabpleaaRange
import Derived.Test.YthkccaifabpleaaCountPlain
namespace Go.Proofs.Ythkccaifabpleaa
open Go.RowKit Go.Shelf
attribute [local go_sem] Oper.semAt_some

/-- The number in a cell. -/
def numAt (w : World) (b : Nat) : Nat := match w.cell? ⟨b, 0, none⟩ with | some (.int _ m) => m.toNat | _ => 0
theorem numAt_eq {w : World} {b : Nat} {k : IntKind} {m : Nat} (h : w.cell? ⟨b, 0, none⟩ = some (.int k (m : Int))) : numAt w b = m := by unfold numAt; rw [h]; simp

theorem or128 (m : Nat) : bits .or .u8 ((m : Int) % 128) 128 = (m : Int) % 128 + 128 := by
  have e : (m : Int) % 128 = ((m % 128 : Nat) : Int) := by omega
  rw [e, show (128 : Int) = ((128 : Nat) : Int) from rfl, u8_or_nat _ _ (by omega) (by omega), Nat.or_comm, nat_join 7 128 (m % 128) (by decide) (by omega)]
  omega

set_option maxRecDepth 100000 in
set_option maxHeartbeats 1000000 in
theorem groups1_in (l Bn m0 : Nat) (J : List UInt8 → World → Prop) (n : Nat) (W : World) (hm0 : m0 ≤ 1073741824)
    (hJs : ∀ pre W1 (a : Addr) v, a.block = Bn → J pre W1 → J pre (W1.setCell a v))
    (hY : ∀ pre x rest W1, Count.put m0 = pre ++ x :: rest → J pre W1 → YieldAt Fence.wide (n - 1) Try.prog l #[.int .u8 (x.toNat : Int)] W1 fun e W' =>
      e = .returned (.bool true) ∧ J (pre ++ [x]) W' ∧ ∀ B, B = Bn → W'.heap[B]? = W1.heap[B]?)
    (h0 : J [] W) (hc : W.cell? ⟨Bn, 0, none⟩ = some (.int .i64 m0)) (hf : W.frozen? ⟨Bn, 0, none⟩ = false) :
    CallsIn Fence.wide n Try.prog 45 #[.func (.yield l) #[] #[], .pointer (some ⟨Bn, 0, none⟩)] W fun e W' => (∃ v, e = .returned v) ∧ J (Count.put m0) W' := by
  have HY := Lib.hid hY
  have HJS := Lib.hid hJs
  clear hY hJs
  refine callsIn_of_wp Try.func45 rfl trivial ?_ rfl
  simp only [Try.ntmps45, List.size_toArray, List.length_cons, List.length_nil, Nat.reduceAdd, Nat.reduceSub, Array.replicate_succ, Array.replicate_zero, List.push_toArray, List.append_toArray, List.nil_append, List.cons_append]
  gi_wp2
  gi_loopw [3] (fun _ wr => ∃ (pre : List UInt8) (m : Nat), Count.put m0 = pre ++ Count.put m ∧ m ≤ 1073741824 ∧ J pre wr ∧ wr.cell? ⟨Bn, 0, none⟩ = some (.int .i64 m) ∧ wr.frozen? ⟨Bn, 0, none⟩ = false) (fun _ wr => numAt wr Bn)
  case atStart => exact ⟨[], m0, rfl, hm0, h0, hc, hf⟩
  case round =>
    obtain ⟨pre, m, hx, hm, hJ, hcm, hfm⟩ := hrel
    have hnm := Lib.hid (numAt_eq hcm)
    have HX := Lib.hid hx
    clear hx
    by_cases hlt : m < 128
    · have hput := Count.put_small hlt
      obtain ⟨fn, tmps, assign, body, hy, hR⟩ := HY.out pre (UInt8.ofNat m) [] wr (by rw [HX.out, hput]) hJ
      have hb : ((UInt8.ofNat m).toNat : Int) = (m : Int) := by rw [UInt8.toNat_ofNat']; omega
      rw [hb] at hy
      have HB := Lib.hid hb
      have HP := Lib.hid hput
      clear hb hput
      gi_wp2
      refine ⟨(fun h => by cases h), ?_⟩
      refine hR.mono ?_
      rintro e W3 ⟨rfl, hJ3, hB3⟩
      gi_wp2
      go_end0
      exact ⟨⟨_, rfl⟩, by rw [HX.out, HP.out]; exact hJ3⟩
    · have hput := Count.put_great hlt
      obtain ⟨fn, tmps, assign, body, hy, hR⟩ := HY.out pre (UInt8.ofNat (m % 128 + 128)) (Count.put (m / 128)) wr (by rw [HX.out, hput]) hJ
      have hb : ((UInt8.ofNat (m % 128 + 128)).toNat : Int) = (m : Int) % 128 + 128 := by rw [UInt8.toNat_ofNat']; omega
      rw [hb] at hy
      have HB := Lib.hid hb
      have HP := Lib.hid hput
      clear hb hput
      have ho := or128 m
      gi_wp2
      refine ⟨(fun h => by cases h), ?_⟩
      refine hR.mono ?_
      rintro e W3 ⟨rfl, hJ3, hB3⟩
      have hB3' := hB3 Bn rfl
      have hc3 : W3.cell? ⟨Bn, 0, none⟩ = some (.int .i64 m) := (World.cell?_of_block (a := ⟨Bn, 0, none⟩) (w := wr) hB3').trans hcm
      have hf3 : W3.frozen? ⟨Bn, 0, none⟩ = false := (World.frozen?_of_block (a := ⟨Bn, 0, none⟩) (w := wr) hB3').trans hfm
      clear hB3 hB3'
      gi_wp2
      rw [show (m : Int) / 128 = ((m / 128 : Nat) : Int) from by omega]
      have hc4 := World.cell?_setCell_same' W3 ⟨Bn, 0, none⟩ (.int .i64 (m / 128 : Nat)) (by rw [hc3]; rfl)
      refine ⟨⟨pre ++ [UInt8.ofNat (m % 128 + 128)], m / 128, ?_, by omega, HJS.out _ _ _ _ rfl hJ3, hc4, by rw [World.frozen?_setCell]; exact hf3⟩, ?_⟩
      · rw [HX.out, HP.out]; simp
      · rw [hnm.out, numAt_eq hc4]; omega

/-- groups(n): n is boxed; the function value captures the box. -/
theorem groups_any (n : Int) (w : World) :
    Calls Try.prog 31 #[.int .i64 n] w fun e w' => e = .returned (.func (.func 45) #[] #[.pointer (some ⟨w.heap.size, 0, none⟩)]) ∧ w' = w.alloc (.cells #[.int .i64 n] 3) := by
  have hmf : ∀ (fn : Fn) (first cap : Array Value) (w : World), (Instr.makeFunc fn first cap).run Try.prog w = .ok (.func fn first cap) w := fun _ _ _ _ => rfl
  go_enter Try.func31, Try.ntmps31
  go_wp2
  go_ret
  exact ⟨rfl, rfl⟩

/-- What groups(n) hands back tells the number's bytes. -/
theorem groups_seq (Bn m0 n : Nat) (w : World) (hm0 : m0 ≤ 1073741824) (hc : w.cell? ⟨Bn, 0, none⟩ = some (.int .i64 m0)) (hf : w.frozen? ⟨Bn, 0, none⟩ = false) :
    SeqSt Fence.wide n Try.prog 45 #[.pointer (some ⟨Bn, 0, none⟩)] (fun x : UInt8 => #[.int .u8 (x.toNat : Int)]) (· = Bn) (Count.put m0) w := by
  intro l J W hJs _ _ hY h0 hB
  have hb := hB Bn rfl
  exact groups1_in l Bn m0 J n W hm0 hJs hY h0 ((World.cell?_of_block (a := ⟨Bn, 0, none⟩) (w := w) hb).trans hc) ((World.frozen?_of_block (a := ⟨Bn, 0, none⟩) (w := w) hb).trans hf)

end Go.Proofs.Ythkccaifabpleaa
