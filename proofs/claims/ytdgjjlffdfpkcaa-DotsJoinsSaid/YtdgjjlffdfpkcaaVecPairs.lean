/- The iterator of two vectors' peers: it tells what merge says. -/
import Derived.Test.YtdgjjlffdfpkcaaVecRounds
namespace Go.Proofs.Ytdgjjlffdfpkcaa
open Go.RowKit Go.Shelf
attribute [local go_sem] Oper.semAt_some

set_option maxRecDepth 100000 in
set_option maxHeartbeats 4000000 in
theorem pairs1_in (l N Ba Bb : Nat) (a b : List Dot) (J : List (Int × Int × Int) → World → Prop) (n : Nat) (W : World) (hlo : N ≤ Ba ∧ N ≤ Bb ∧ Ba ≠ Bb)
    (hJt : ∀ pre W1 W2, Turned (fun B => B = Ba ∨ B = Bb) W1 W2 → J pre W1 → J pre W2)
    (hY : ∀ pre x rest W1, Vec.merge a b = pre ++ x :: rest → J pre W1 → YieldAt Fence.wide (n - 1) Try.prog l (pairV x) W1 fun e W' =>
      e = .returned (.bool true) ∧ J (pre ++ [x]) W' ∧ W1.heap.size ≤ W'.heap.size ∧ ∀ B, (B < N ∨ B = Ba ∨ B = Bb) → W'.heap[B]? = W1.heap[B]?)
    (h0 : J [] W) (ha : Held W N Ba a) (hb : Held W N Bb b) :
    CallsIn Fence.wide n Try.prog 84 #[.func (.yield l) #[] #[], .pointer (some ⟨Ba, 0, none⟩), .pointer (some ⟨Bb, 0, none⟩)] W fun e W' => (∃ v, e = .returned v) ∧ J (Vec.merge a b) W' := by
  have HY := Lib.hid hY
  have HJT := Lib.hid hJt
  clear hY hJt
  refine callsIn_of_wp Try.func84 rfl trivial ?_ rfl
  simp only [Try.ntmps84, List.size_toArray, List.length_cons, List.length_nil, Nat.reduceAdd, Nat.reduceSub, Array.replicate_succ, Array.replicate_zero, List.push_toArray, List.append_toArray, List.nil_append, List.cons_append]
  gi_wp2
  gi_loopw [] (fun wr => ∃ (pre : List (Int × Int × Int)) (x y : List Dot), Vec.merge a b = pre ++ Vec.merge x y ∧ J pre wr ∧ Held wr N Ba x ∧ Held wr N Bb y) (fun wr => lenAt wr Ba + lenAt wr Bb)
  case atStart => exact ⟨[], a, b, rfl, h0, ha, hb⟩
  case round =>
    obtain ⟨pre, x, y, hx, hJ, hA, hB⟩ := hrel
    have HX := Lib.hid hx
    clear hx h0 ha hb
    have hla := Lib.hid hA.len
    have hlb := Lib.hid hB.len
    cases x with
    | nil =>
      cases y with
      | nil =>
        obtain ⟨pa, ca, hca, _⟩ := hA
        obtain ⟨pb, cb, hcb, _⟩ := hB
        rw [List.length_nil] at hca hcb
        gi_wp2
        go_end0
        rw [HX.out, Vec.merge_nil, List.append_nil]
        exact ⟨⟨_, rfl⟩, hJ⟩
      | cons f y =>
        refine round_right l N Ba Bb a b J n hlo HJT HY wr pre f y HX hJ hA hB _ ?_ _ (by rfl) _ _ _ _ _ _ _ _ _ _ _ _ _ _ _ _ _ _ _ _ _ _ _ _ _ _ _ _ _ _ _ _ _ _ _ _ _ _ _ _ _ _ _ _ _ _ _ _ _ _ _ _ _ _ _ _ _ _ _ _ _ _ _ _ _ _ _ _ _ _ _ _ _ _ _ _ _ _ _ _ _ _ _ _ _ _ _ _ _ _
        · unfold RoundEnd
          intro x' y' x1 W3 u4 u5 u6 u7 u8 u9 u10 u11 u12 u13 u14 u15 u16 u17 u18 u19 u20 u21 u22 u23 u24 u25 u26 u27 u28 u29 u30 u31 u32 u33 u34 u35 u36 u37 u38 u39 u40 u41 u42 u43 u44 u45 u46 u47 u48 u49 u50 u51 u52 u53 u54 u55 u56 u57 u58 u59 u60 u61 u62 u63 u64 u65 u66 u67 u68 u69 u70 u71 u72 u73 u74 u75 u76 u77 u78 u79 u80 u81 u82 u83 u84 u85 u86 u87 u88 u89 u90 u91 u92 u93 h1 h2 h3 h4 h5
          refine ⟨⟨u4, u5, u6, u7, u8, u9, u10, u11, u12, u13, u14, u15, u16, u17, u18, u19, u20, u21, u22, u23, u24, u25, u26, u27, u28, u29, u30, u31, u32, u33, u34, u35, u36, u37, u38, u39, u40, u41, u42, u43, u44, u45, u46, u47, u48, u49, u50, u51, u52, u53, u54, u55, u56, u57, u58, u59, u60, u61, u62, u63, u64, u65, u66, u67, u68, u69, u70, u71, u72, u73, u74, u75, u76, u77, u78, u79, u80, u81, u82, u83, u84, u85, u86, u87, u88, u89, u90, u91, u92, u93, ⟨_, x', y', h1, h2, h3, h4⟩, rfl⟩, ?_⟩
          rw [hla.out, hlb.out, h3.len, h4.len]
          exact h5
    | cons d x =>
      cases y with
      | nil =>
        refine round_left l N Ba Bb a b J n hlo HJT HY wr pre d x HX hJ hA hB _ ?_ _ (by rfl) _ _ _ _ _ _ _ _ _ _ _ _ _ _ _ _ _ _ _ _ _ _ _ _ _ _ _ _ _ _ _ _ _ _ _ _ _ _ _ _ _ _ _ _ _ _ _ _ _ _ _ _ _ _ _ _ _ _ _ _ _ _ _ _ _ _ _ _ _ _ _ _ _ _ _ _ _ _ _ _ _ _ _ _ _ _ _ _ _ _
        · unfold RoundEnd
          intro x' y' x1 W3 u4 u5 u6 u7 u8 u9 u10 u11 u12 u13 u14 u15 u16 u17 u18 u19 u20 u21 u22 u23 u24 u25 u26 u27 u28 u29 u30 u31 u32 u33 u34 u35 u36 u37 u38 u39 u40 u41 u42 u43 u44 u45 u46 u47 u48 u49 u50 u51 u52 u53 u54 u55 u56 u57 u58 u59 u60 u61 u62 u63 u64 u65 u66 u67 u68 u69 u70 u71 u72 u73 u74 u75 u76 u77 u78 u79 u80 u81 u82 u83 u84 u85 u86 u87 u88 u89 u90 u91 u92 u93 h1 h2 h3 h4 h5
          refine ⟨⟨u4, u5, u6, u7, u8, u9, u10, u11, u12, u13, u14, u15, u16, u17, u18, u19, u20, u21, u22, u23, u24, u25, u26, u27, u28, u29, u30, u31, u32, u33, u34, u35, u36, u37, u38, u39, u40, u41, u42, u43, u44, u45, u46, u47, u48, u49, u50, u51, u52, u53, u54, u55, u56, u57, u58, u59, u60, u61, u62, u63, u64, u65, u66, u67, u68, u69, u70, u71, u72, u73, u74, u75, u76, u77, u78, u79, u80, u81, u82, u83, u84, u85, u86, u87, u88, u89, u90, u91, u92, u93, ⟨_, x', y', h1, h2, h3, h4⟩, rfl⟩, ?_⟩
          rw [hla.out, hlb.out, h3.len, h4.len]
          exact h5
      | cons f y =>
        rcases Int.lt_trichotomy d.1 f.1 with ho | ho | ho
        · skip
          refine round_lt l N Ba Bb a b J n hlo HJT HY wr pre d f x y HX hJ hA hB ho _ ?_ _ (by rfl) _ _ _ _ _ _ _ _ _ _ _ _ _ _ _ _ _ _ _ _ _ _ _ _ _ _ _ _ _ _ _ _ _ _ _ _ _ _ _ _ _ _ _ _ _ _ _ _ _ _ _ _ _ _ _ _ _ _ _ _ _ _ _ _ _ _ _ _ _ _ _ _ _ _ _ _ _ _ _ _ _ _ _ _ _ _ _ _ _ _
          · unfold RoundEnd
            intro x' y' x1 W3 u4 u5 u6 u7 u8 u9 u10 u11 u12 u13 u14 u15 u16 u17 u18 u19 u20 u21 u22 u23 u24 u25 u26 u27 u28 u29 u30 u31 u32 u33 u34 u35 u36 u37 u38 u39 u40 u41 u42 u43 u44 u45 u46 u47 u48 u49 u50 u51 u52 u53 u54 u55 u56 u57 u58 u59 u60 u61 u62 u63 u64 u65 u66 u67 u68 u69 u70 u71 u72 u73 u74 u75 u76 u77 u78 u79 u80 u81 u82 u83 u84 u85 u86 u87 u88 u89 u90 u91 u92 u93 h1 h2 h3 h4 h5
            refine ⟨⟨u4, u5, u6, u7, u8, u9, u10, u11, u12, u13, u14, u15, u16, u17, u18, u19, u20, u21, u22, u23, u24, u25, u26, u27, u28, u29, u30, u31, u32, u33, u34, u35, u36, u37, u38, u39, u40, u41, u42, u43, u44, u45, u46, u47, u48, u49, u50, u51, u52, u53, u54, u55, u56, u57, u58, u59, u60, u61, u62, u63, u64, u65, u66, u67, u68, u69, u70, u71, u72, u73, u74, u75, u76, u77, u78, u79, u80, u81, u82, u83, u84, u85, u86, u87, u88, u89, u90, u91, u92, u93, ⟨_, x', y', h1, h2, h3, h4⟩, rfl⟩, ?_⟩
            rw [hla.out, hlb.out, h3.len, h4.len]
            exact h5
        · skip
          refine round_eq l N Ba Bb a b J n hlo HJT HY wr pre d f x y HX hJ hA hB ho _ ?_ _ (by rfl) _ _ _ _ _ _ _ _ _ _ _ _ _ _ _ _ _ _ _ _ _ _ _ _ _ _ _ _ _ _ _ _ _ _ _ _ _ _ _ _ _ _ _ _ _ _ _ _ _ _ _ _ _ _ _ _ _ _ _ _ _ _ _ _ _ _ _ _ _ _ _ _ _ _ _ _ _ _ _ _ _ _ _ _ _ _ _ _ _ _
          · unfold RoundEnd
            intro x' y' x1 W3 u4 u5 u6 u7 u8 u9 u10 u11 u12 u13 u14 u15 u16 u17 u18 u19 u20 u21 u22 u23 u24 u25 u26 u27 u28 u29 u30 u31 u32 u33 u34 u35 u36 u37 u38 u39 u40 u41 u42 u43 u44 u45 u46 u47 u48 u49 u50 u51 u52 u53 u54 u55 u56 u57 u58 u59 u60 u61 u62 u63 u64 u65 u66 u67 u68 u69 u70 u71 u72 u73 u74 u75 u76 u77 u78 u79 u80 u81 u82 u83 u84 u85 u86 u87 u88 u89 u90 u91 u92 u93 h1 h2 h3 h4 h5
            refine ⟨⟨u4, u5, u6, u7, u8, u9, u10, u11, u12, u13, u14, u15, u16, u17, u18, u19, u20, u21, u22, u23, u24, u25, u26, u27, u28, u29, u30, u31, u32, u33, u34, u35, u36, u37, u38, u39, u40, u41, u42, u43, u44, u45, u46, u47, u48, u49, u50, u51, u52, u53, u54, u55, u56, u57, u58, u59, u60, u61, u62, u63, u64, u65, u66, u67, u68, u69, u70, u71, u72, u73, u74, u75, u76, u77, u78, u79, u80, u81, u82, u83, u84, u85, u86, u87, u88, u89, u90, u91, u92, u93, ⟨_, x', y', h1, h2, h3, h4⟩, rfl⟩, ?_⟩
            rw [hla.out, hlb.out, h3.len, h4.len]
            exact h5
        · skip
          refine round_gt l N Ba Bb a b J n hlo HJT HY wr pre d f x y HX hJ hA hB ho _ ?_ _ (by rfl) _ _ _ _ _ _ _ _ _ _ _ _ _ _ _ _ _ _ _ _ _ _ _ _ _ _ _ _ _ _ _ _ _ _ _ _ _ _ _ _ _ _ _ _ _ _ _ _ _ _ _ _ _ _ _ _ _ _ _ _ _ _ _ _ _ _ _ _ _ _ _ _ _ _ _ _ _ _ _ _ _ _ _ _ _ _ _ _ _ _
          · unfold RoundEnd
            intro x' y' x1 W3 u4 u5 u6 u7 u8 u9 u10 u11 u12 u13 u14 u15 u16 u17 u18 u19 u20 u21 u22 u23 u24 u25 u26 u27 u28 u29 u30 u31 u32 u33 u34 u35 u36 u37 u38 u39 u40 u41 u42 u43 u44 u45 u46 u47 u48 u49 u50 u51 u52 u53 u54 u55 u56 u57 u58 u59 u60 u61 u62 u63 u64 u65 u66 u67 u68 u69 u70 u71 u72 u73 u74 u75 u76 u77 u78 u79 u80 u81 u82 u83 u84 u85 u86 u87 u88 u89 u90 u91 u92 u93 h1 h2 h3 h4 h5
            refine ⟨⟨u4, u5, u6, u7, u8, u9, u10, u11, u12, u13, u14, u15, u16, u17, u18, u19, u20, u21, u22, u23, u24, u25, u26, u27, u28, u29, u30, u31, u32, u33, u34, u35, u36, u37, u38, u39, u40, u41, u42, u43, u44, u45, u46, u47, u48, u49, u50, u51, u52, u53, u54, u55, u56, u57, u58, u59, u60, u61, u62, u63, u64, u65, u66, u67, u68, u69, u70, u71, u72, u73, u74, u75, u76, u77, u78, u79, u80, u81, u82, u83, u84, u85, u86, u87, u88, u89, u90, u91, u92, u93, ⟨_, x', y', h1, h2, h3, h4⟩, rfl⟩, ?_⟩
            rw [hla.out, hlb.out, h3.len, h4.len]
            exact h5

end Go.Proofs.Ytdgjjlffdfpkcaa
