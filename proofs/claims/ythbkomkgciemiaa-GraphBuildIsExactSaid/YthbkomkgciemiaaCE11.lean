/- GraphBuildIsExact: for every metric, at most 25 vectors that fit, and a number: the graph of Build is valid, and all of its neighbourhoods are exact; each has at least this number of slots, or all; with a lesser radius it would have fewer. Condition: none. -/
import Derived.Test.YthbkomkgciemiaaCE3
import Derived.Test.YthbkomkgciemiaaCE5
import Derived.Test.YthbkomkgciemiaaCE6
import Derived.Test.YthbkomkgciemiaaCE4
import Derived.Test.YthbkomkgciemiaaCE8
import Derived.Test.YthbkomkgciemiaaCE10
import Derived.Test.YthbkomkgciemiaaRows
import Derived.WalkKit
import Derived.ProofKit
import Derived.OpenShut
import Derived.ShutString
import Derived.ChangeOld
import Derived.Below
import Derived.SizedLaws
-- by hp.py over the kit's print (stubs proved by hand)
namespace Go.Proofs.Ythbkomkgciemiaa.PKM
open Go.RowKit Go.Proofs.YthbkomkgciemiaaW.PrintWords Go.Proofs.YthbkomkgciemiaaW.PrintLast Go.Proofs.YthbkomkgciemiaaW.PrintMore
attribute [local go_sem] max2_int min2_int max_two min_two max_three min_three max_four min_four   -- for this text's walks alone
set_option linter.unusedVariables false
set_option linter.unusedSimpArgs false

-- STAGE 4 antiquarylaw27_GraphBuildIsExact
/-! ### antiquarylaw27_GraphBuildIsExact: function 4 -/
mutual
def antiquarylaw27_GraphBuildIsExact.j0 : Nat → Int → List (List Int) → Int → Bool → Option (Bool)
  | 0, _, _, _, _ => none
  | k + 1, x0, x1, x2, x29 => if x29 = true then ((antiquarylaw27_sanity.f).bind fun t189 => (some t189)) else ((graph_Build.f x0 x1 (wrap64 (1 + (wrap64 (x2))))).bind fun bt190 => ((graph_Check.f k x0 x1 bt190.1).bind fun bt195 => (if bt190.2 = 0 then (if bt195.2 = 0 then (if bt195.1 = (-1) then ((graph_Valid.f k (x1.length : Int) bt190.1).bind fun t197 => (if t197 = true then (antiquarylaw27_GraphBuildIsExact.j1 k x0 x1 (wrap64 (1 + (wrap64 (x2)))) ((bt190.1.length : Int) != (x1.length : Int)) bt190.1) else (antiquarylaw27_GraphBuildIsExact.j1 k x0 x1 (wrap64 (1 + (wrap64 (x2)))) true bt190.1))) else (antiquarylaw27_GraphBuildIsExact.j1 k x0 x1 (wrap64 (1 + (wrap64 (x2)))) true bt190.1)) else (antiquarylaw27_GraphBuildIsExact.j1 k x0 x1 (wrap64 (1 + (wrap64 (x2)))) true bt190.1)) else (antiquarylaw27_GraphBuildIsExact.j1 k x0 x1 (wrap64 (1 + (wrap64 (x2)))) true bt190.1))))
def antiquarylaw27_GraphBuildIsExact.j1 : Nat → Int → List (List Int) → Int → Bool → List (S39) → Option (Bool)
  | 0, _, _, _, _, _ => none
  | k + 1, x0, x1, x7, x72, x195000 => if x72 = true then (some false) else (antiquarylaw27_GraphBuildIsExact.l0 k x0 x1 x7 0 x195000)
def antiquarylaw27_GraphBuildIsExact.l0 : Nat → Int → List (List Int) → Int → Int → List (S39) → Option (Bool)
  | 0, _, _, _, _, _ => none
  | k + 1, x0, x1, x7, x12, x195000 => if x12 < (x1.length : Int) then (if 0 ≤ x12 then (if x12 < (x195000.length : Int) then (antiquarylaw27_GraphBuildIsExact.l1 k x0 x1 x7 x12 0 0 x195000 ((rd_T39 x195000 x12).f0) ((rd_T39 x195000 x12).f1)) else (none)) else (none)) else ((antiquarylaw27_sanity.f).bind fun t198 => (some t198))
def antiquarylaw27_GraphBuildIsExact.l1 : Nat → Int → List (List Int) → Int → Int → Int → Int → List (S39) → Int → List Int → Option (Bool)
  | 0, _, _, _, _, _, _, _, _, _ => none
  | k + 1, x0, x1, x7, x12, x14, x15, x195000, x201000, x201001 => if x15 < (x1.length : Int) then (if 0 ≤ x12 then (if x12 < (x1.length : Int) then (if 0 ≤ x15 then ((vector_Key.f k x0 (rd_L1 x1 x12) (rd_L1 x1 x15)).bind fun t203 => (if t203 < x201000 then (antiquarylaw27_GraphBuildIsExact.l1 k x0 x1 x7 x12 (wrap64 (x14 + 1)) (wrap64 (x15 + 1)) x195000 x201000 x201001) else (antiquarylaw27_GraphBuildIsExact.l1 k x0 x1 x7 x12 x14 (wrap64 (x15 + 1)) x195000 x201000 x201001))) else (none)) else (none)) else (none)) else (if (x201001.length : Int) < (mn x7 (x1.length : Int)) then (some false) else (if x14 ≥ (mn x7 (x1.length : Int)) then (some false) else (antiquarylaw27_GraphBuildIsExact.l0 k x0 x1 x7 (wrap64 (x12 + 1)) x195000)))
end
def antiquarylaw27_GraphBuildIsExact.f (k : Nat) (a0 : Int) (l1 : List (List Int)) (a2 : Int) : Option (Bool) := (antiquaryref09_Few.f k l1 25).bind fun t186 => (if t186 = true then ((antiquaryref09_Metric.f a0).bind fun t187 => (if t187 = true then ((antiquaryref09_Fit.f k l1).bind fun t188 => (antiquarylaw27_GraphBuildIsExact.j0 k a0 l1 a2 (!t188))) else (antiquarylaw27_GraphBuildIsExact.j0 k a0 l1 a2 true))) else (antiquarylaw27_GraphBuildIsExact.j0 k a0 l1 a2 true))
theorem antiquarylaw27_GraphBuildIsExact.mono_l : ∀ k, (∀ y0 y1 y2 y3, LeO (antiquarylaw27_GraphBuildIsExact.j0 k y0 y1 y2 y3) (antiquarylaw27_GraphBuildIsExact.j0 (k + 1) y0 y1 y2 y3)) ∧ (∀ y0 y1 y2 y3 y4, LeO (antiquarylaw27_GraphBuildIsExact.j1 k y0 y1 y2 y3 y4) (antiquarylaw27_GraphBuildIsExact.j1 (k + 1) y0 y1 y2 y3 y4)) ∧ (∀ y0 y1 y2 y3 y4, LeO (antiquarylaw27_GraphBuildIsExact.l0 k y0 y1 y2 y3 y4) (antiquarylaw27_GraphBuildIsExact.l0 (k + 1) y0 y1 y2 y3 y4)) ∧ (∀ y0 y1 y2 y3 y4 y5 y6 y7 y8, LeO (antiquarylaw27_GraphBuildIsExact.l1 k y0 y1 y2 y3 y4 y5 y6 y7 y8) (antiquarylaw27_GraphBuildIsExact.l1 (k + 1) y0 y1 y2 y3 y4 y5 y6 y7 y8))
  | 0 => ⟨fun _ _ _ _ r h => by simp [antiquarylaw27_GraphBuildIsExact.j0] at h, fun _ _ _ _ _ r h => by simp [antiquarylaw27_GraphBuildIsExact.j1] at h, fun _ _ _ _ _ r h => by simp [antiquarylaw27_GraphBuildIsExact.l0] at h, fun _ _ _ _ _ _ _ _ _ r h => by simp [antiquarylaw27_GraphBuildIsExact.l1] at h⟩
  | k + 1 => by
    obtain ⟨ih0, ih1, ih2, ih3⟩ := antiquarylaw27_GraphBuildIsExact.mono_l k
    refine ⟨?_, ?_, ?_, ?_⟩
    · intro y0 y1 y2 y3
      unfold antiquarylaw27_GraphBuildIsExact.j0
      repeat' first
      | (with_reducible exact ih0 _ _ _ _)
      | (with_reducible exact ih1 _ _ _ _ _)
      | (with_reducible exact ih2 _ _ _ _ _)
      | (with_reducible exact ih3 _ _ _ _ _ _ _ _ _)
      | (with_reducible exact antiquaryref09_Few.mono _ _ _)
      | (with_reducible exact antiquaryref09_Fit.mono _ _)
      | (with_reducible exact graph_Check.mono _ _ _ _)
      | (with_reducible exact graph_Valid.mono _ _ _)
      | (with_reducible exact vector_Key.mono _ _ _ _)
      | (with_reducible exact LeO.refl _)
      | (with_reducible exact LeO.none _)
      | (with_reducible refine LeO.ite ?_ ?_)
      | (with_reducible refine LeO.bind ?_ (fun _ => ?_))
      | exact ih0 _ _ _ _
      | exact ih1 _ _ _ _ _
      | exact ih2 _ _ _ _ _
      | exact ih3 _ _ _ _ _ _ _ _ _
      | exact antiquaryref09_Few.mono _ _ _
      | exact antiquaryref09_Fit.mono _ _
      | exact graph_Check.mono _ _ _ _
      | exact graph_Valid.mono _ _ _
      | exact vector_Key.mono _ _ _ _
      | exact LeO.none _
      | refine LeO.ite ?_ ?_
      | refine LeO.bind ?_ (fun _ => ?_)
    · intro y0 y1 y2 y3 y4
      unfold antiquarylaw27_GraphBuildIsExact.j1
      repeat' first
      | (with_reducible exact ih0 _ _ _ _)
      | (with_reducible exact ih1 _ _ _ _ _)
      | (with_reducible exact ih2 _ _ _ _ _)
      | (with_reducible exact ih3 _ _ _ _ _ _ _ _ _)
      | (with_reducible exact antiquaryref09_Few.mono _ _ _)
      | (with_reducible exact antiquaryref09_Fit.mono _ _)
      | (with_reducible exact graph_Check.mono _ _ _ _)
      | (with_reducible exact graph_Valid.mono _ _ _)
      | (with_reducible exact vector_Key.mono _ _ _ _)
      | (with_reducible exact LeO.refl _)
      | (with_reducible exact LeO.none _)
      | (with_reducible refine LeO.ite ?_ ?_)
      | (with_reducible refine LeO.bind ?_ (fun _ => ?_))
      | exact ih0 _ _ _ _
      | exact ih1 _ _ _ _ _
      | exact ih2 _ _ _ _ _
      | exact ih3 _ _ _ _ _ _ _ _ _
      | exact antiquaryref09_Few.mono _ _ _
      | exact antiquaryref09_Fit.mono _ _
      | exact graph_Check.mono _ _ _ _
      | exact graph_Valid.mono _ _ _
      | exact vector_Key.mono _ _ _ _
      | exact LeO.none _
      | refine LeO.ite ?_ ?_
      | refine LeO.bind ?_ (fun _ => ?_)
    · intro y0 y1 y2 y3 y4
      unfold antiquarylaw27_GraphBuildIsExact.l0
      repeat' first
      | (with_reducible exact ih0 _ _ _ _)
      | (with_reducible exact ih1 _ _ _ _ _)
      | (with_reducible exact ih2 _ _ _ _ _)
      | (with_reducible exact ih3 _ _ _ _ _ _ _ _ _)
      | (with_reducible exact antiquaryref09_Few.mono _ _ _)
      | (with_reducible exact antiquaryref09_Fit.mono _ _)
      | (with_reducible exact graph_Check.mono _ _ _ _)
      | (with_reducible exact graph_Valid.mono _ _ _)
      | (with_reducible exact vector_Key.mono _ _ _ _)
      | (with_reducible exact LeO.refl _)
      | (with_reducible exact LeO.none _)
      | (with_reducible refine LeO.ite ?_ ?_)
      | (with_reducible refine LeO.bind ?_ (fun _ => ?_))
      | exact ih0 _ _ _ _
      | exact ih1 _ _ _ _ _
      | exact ih2 _ _ _ _ _
      | exact ih3 _ _ _ _ _ _ _ _ _
      | exact antiquaryref09_Few.mono _ _ _
      | exact antiquaryref09_Fit.mono _ _
      | exact graph_Check.mono _ _ _ _
      | exact graph_Valid.mono _ _ _
      | exact vector_Key.mono _ _ _ _
      | exact LeO.none _
      | refine LeO.ite ?_ ?_
      | refine LeO.bind ?_ (fun _ => ?_)
    · intro y0 y1 y2 y3 y4 y5 y6 y7 y8
      unfold antiquarylaw27_GraphBuildIsExact.l1
      repeat' first
      | (with_reducible exact ih0 _ _ _ _)
      | (with_reducible exact ih1 _ _ _ _ _)
      | (with_reducible exact ih2 _ _ _ _ _)
      | (with_reducible exact ih3 _ _ _ _ _ _ _ _ _)
      | (with_reducible exact antiquaryref09_Few.mono _ _ _)
      | (with_reducible exact antiquaryref09_Fit.mono _ _)
      | (with_reducible exact graph_Check.mono _ _ _ _)
      | (with_reducible exact graph_Valid.mono _ _ _)
      | (with_reducible exact vector_Key.mono _ _ _ _)
      | (with_reducible exact LeO.refl _)
      | (with_reducible exact LeO.none _)
      | (with_reducible refine LeO.ite ?_ ?_)
      | (with_reducible refine LeO.bind ?_ (fun _ => ?_))
      | exact ih0 _ _ _ _
      | exact ih1 _ _ _ _ _
      | exact ih2 _ _ _ _ _
      | exact ih3 _ _ _ _ _ _ _ _ _
      | exact antiquaryref09_Few.mono _ _ _
      | exact antiquaryref09_Fit.mono _ _
      | exact graph_Check.mono _ _ _ _
      | exact graph_Valid.mono _ _ _
      | exact vector_Key.mono _ _ _ _
      | exact LeO.none _
      | refine LeO.ite ?_ ?_
      | refine LeO.bind ?_ (fun _ => ?_)
theorem antiquarylaw27_GraphBuildIsExact.mono : ∀ a0 a1 a2 k, LeO (antiquarylaw27_GraphBuildIsExact.f k a0 a1 a2) (antiquarylaw27_GraphBuildIsExact.f (k + 1) a0 a1 a2) := by
  intro a0 a1 a2 k
  obtain ⟨ih0, ih1, ih2, ih3⟩ := antiquarylaw27_GraphBuildIsExact.mono_l k
  unfold antiquarylaw27_GraphBuildIsExact.f
  repeat' first
      | (with_reducible exact ih0 _ _ _ _)
      | (with_reducible exact ih1 _ _ _ _ _)
      | (with_reducible exact ih2 _ _ _ _ _)
      | (with_reducible exact ih3 _ _ _ _ _ _ _ _ _)
      | (with_reducible exact antiquaryref09_Few.mono _ _ _)
      | (with_reducible exact antiquaryref09_Fit.mono _ _)
      | (with_reducible exact graph_Check.mono _ _ _ _)
      | (with_reducible exact graph_Valid.mono _ _ _)
      | (with_reducible exact vector_Key.mono _ _ _ _)
      | (with_reducible exact LeO.refl _)
      | (with_reducible exact LeO.none _)
      | (with_reducible refine LeO.ite ?_ ?_)
      | (with_reducible refine LeO.bind ?_ (fun _ => ?_))
      | exact ih0 _ _ _ _
      | exact ih1 _ _ _ _ _
      | exact ih2 _ _ _ _ _
      | exact ih3 _ _ _ _ _ _ _ _ _
      | exact antiquaryref09_Few.mono _ _ _
      | exact antiquaryref09_Fit.mono _ _
      | exact graph_Check.mono _ _ _ _
      | exact graph_Valid.mono _ _ _
      | exact vector_Key.mono _ _ _ _
      | exact LeO.none _
      | refine LeO.ite ?_ ?_
      | refine LeO.bind ?_ (fun _ => ?_)
def antiquarylaw27_GraphBuildIsExact.T16 : Bool × List (List Nat × List Nat) := (true, [([], []), ([], []), ([], []), ([1, 2], [1, 2]), ([3], [3]), ([], []), ([], []), ([5, 6], [5, 6]), ([7], [7]), ([0, 4, 8], [0, 4, 8]), ([9, 9, 0, 1, 2, 3, 4, 5, 6, 7, 8, 9], [9])])
def antiquarylaw27_GraphBuildIsExact.B16 : List Nat := [0, 0, 0, 6, 14, 0, 0, 96, 224, 511, 1023]
theorem antiquarylaw27_GraphBuildIsExact.tab16 : rtab .any (opsOf Try.f4 16) = antiquarylaw27_GraphBuildIsExact.T16 := by kernel_rfl
theorem antiquarylaw27_GraphBuildIsExact.bits16 : waitsOk antiquarylaw27_GraphBuildIsExact.T16.2 antiquarylaw27_GraphBuildIsExact.B16 = true := by kernel_rfl
set_option maxHeartbeats 8000000 in
set_option maxRecDepth 100000 in
theorem antiquarylaw27_GraphBuildIsExact.calls (k : Nat) (a0 : Int) (A1 : Option Addr) (c1 : Nat) (l1 : List (List Int)) (a2 : Int) (r : Bool) (w : World) (hr1 : Kd.C (Kd.slice 3 (Kd.int .i64)) w A1 l1.length l1) (hc1 : l1.length ≤ c1) (h : antiquarylaw27_GraphBuildIsExact.f k a0 l1 a2 = some r) :
    Calls Try.prog 4 #[.int .i64 a0, .slice A1 l1.length c1, .int .u8 a2] w fun e w' => e = .returned (.bool r) ∧ Below w.heap.size w w' := by
  have hu25 := Try.underlying25
  have hu39 := Try.underlying39
  have HR1 := Aside0.mk hr1
  have HC1 := Aside0.mk hc1
  clear hr1 hc1
  have HB := Aside0.mk (Below.refl w.heap.size w)
  have H : ((antiquaryref09_Few.f k l1 25).bind fun t186 => (if t186 = true then ((antiquaryref09_Metric.f a0).bind fun t187 => (if t187 = true then ((antiquaryref09_Fit.f k l1).bind fun t188 => (antiquarylaw27_GraphBuildIsExact.j0 k a0 l1 a2 (!t188))) else (antiquarylaw27_GraphBuildIsExact.j0 k a0 l1 a2 true))) else (antiquarylaw27_GraphBuildIsExact.j0 k a0 l1 a2 true))) = some r := h
  clear h
  have HC4 := Aside0.mk H
  clear H
  go_enter Try.func4, Try.ntmps4
  go_upto_region 1 with (fail)
  go_cut [29] (fun v29 wc => ∃ (kq : Nat) (x29_3 : Bool), v29 = .bool x29_3 ∧ Aside0 (antiquarylaw27_GraphBuildIsExact.j0 kq a0 l1 a2 x29_3 = some r) ∧ Aside0 (kq ≤ k) ∧ Aside0 (Below w.heap.size w wc))
  case first =>
    have H := HC4.out
    clear HC4
    replace H := Option.bind_eq_some_iff.mp H
    obtain ⟨t186, A50, H⟩ := H
    replace H : (if t186 = true then ((antiquaryref09_Metric.f a0).bind fun t187 => (if t187 = true then ((antiquaryref09_Fit.f k l1).bind fun t188 => (antiquarylaw27_GraphBuildIsExact.j0 k a0 l1 a2 (!t188))) else (antiquarylaw27_GraphBuildIsExact.j0 k a0 l1 a2 true))) else (antiquarylaw27_GraphBuildIsExact.j0 k a0 l1 a2 true)) = some r := H
    have A5 := Aside0.mk A50
    clear A50
    by_cases c6 : t186 = true
    · subst c6
      have H1 : ((antiquaryref09_Metric.f a0).bind fun t187 => (if t187 = true then ((antiquaryref09_Fit.f k l1).bind fun t188 => (antiquarylaw27_GraphBuildIsExact.j0 k a0 l1 a2 (!t188))) else (antiquarylaw27_GraphBuildIsExact.j0 k a0 l1 a2 true))) = some r := by rw [if_pos rfl] at H; exact H
      clear H
      have H := H1
      clear H1
      replace H := Option.bind_eq_some_iff.mp H
      obtain ⟨t187, A70, H⟩ := H
      replace H : (if t187 = true then ((antiquaryref09_Fit.f k l1).bind fun t188 => (antiquarylaw27_GraphBuildIsExact.j0 k a0 l1 a2 (!t188))) else (antiquarylaw27_GraphBuildIsExact.j0 k a0 l1 a2 true)) = some r := H
      have A7 := Aside0.mk A70
      clear A70
      by_cases c8 : t187 = true
      · subst c8
        have H1 : ((antiquaryref09_Fit.f k l1).bind fun t188 => (antiquarylaw27_GraphBuildIsExact.j0 k a0 l1 a2 (!t188))) = some r := by rw [if_pos rfl] at H; exact H
        clear H
        have H := H1
        clear H1
        replace H := Option.bind_eq_some_iff.mp H
        obtain ⟨t188, A90, H⟩ := H
        replace H : (antiquarylaw27_GraphBuildIsExact.j0 k a0 l1 a2 (!t188)) = some r := H
        have A9 := Aside0.mk A90
        clear A90
        have H' := Aside0.mk H
        clear H
        go_wp2_with (first | ((with_reducible refine gate_callee (f := 6) rfl ?_); refine goesL_ (some 18) rfl rfl Try.func6 (by kernel_rfl) rfl #[.slice A1 l1.length c1, .int .i64 25] rfl (by (try simp only [List.map_toArray, List.map_cons, List.map_nil]); first | done | rfl | (simp only [List.length_drop, List.length_take]; rfl)) ?_; (with_reducible refine (antiquaryref09_Few.calls k _ _ l1 25 true _ ?side1 ?side2 A5.out).mono ?_); (case side1 => repeat (first | exact (Kd.C_below HR1.out HB.out) | (with_reducible refine Kd.C_alloc ?_ _) | (with_reducible refine Kd.C_drewN ?_ _) | (with_reducible refine Kd.C_drew ?_))); (case side2 => exact HC1.out); rintro e w' ⟨rfl, ⟨nd, rfl⟩⟩; refine ⟨_, rfl, ?_⟩) | (go_at_call 15; (with_reducible refine (antiquaryref09_Metric.calls a0 true _ A7.out).mono ?_); rintro e w' ⟨rfl, ⟨nd, rfl⟩⟩) | (go_at_call 16; (with_reducible refine (antiquaryref09_Fit.calls k _ _ l1 t188 _ ?side1 ?side2 A9.out).mono ?_); (case side1 => repeat (first | exact (Kd.C_below HR1.out (by repeat (first | (with_reducible first | exact HB.out | apply below_alloc | apply pw_below_drewN | apply below_drew1) | exact HB.out))) | (with_reducible refine Kd.C_alloc ?_ _) | (with_reducible refine Kd.C_drewN ?_ _) | (with_reducible refine Kd.C_drew ?_))); (case side2 => exact HC1.out); rintro e w' ⟨rfl, ⟨nd, rfl⟩⟩))
        go_meet
        case rel => exact ⟨_, (!t188), (by first | rfl | (simp; done) | (simp [*]; done)), H', ⟨by first | omega | exact Nat.le_refl _⟩, ⟨by repeat (first | (with_reducible first | exact HB.out | apply below_alloc | apply pw_below_drewN | apply below_drew1) | exact HB.out)⟩⟩
      · replace c8 := Bool.eq_false_iff.mpr c8
        subst c8
        have H1 : (antiquarylaw27_GraphBuildIsExact.j0 k a0 l1 a2 true) = some r := by rw [if_neg (show ¬ (false = true) by decide)] at H; exact H
        clear H
        have H := H1
        clear H1
        have H' := Aside0.mk H
        clear H
        go_wp2_with (first | ((with_reducible refine gate_callee (f := 6) rfl ?_); refine goesL_ (some 18) rfl rfl Try.func6 (by kernel_rfl) rfl #[.slice A1 l1.length c1, .int .i64 25] rfl (by (try simp only [List.map_toArray, List.map_cons, List.map_nil]); first | done | rfl | (simp only [List.length_drop, List.length_take]; rfl)) ?_; (with_reducible refine (antiquaryref09_Few.calls k _ _ l1 25 true _ ?side1 ?side2 A5.out).mono ?_); (case side1 => repeat (first | exact (Kd.C_below HR1.out HB.out) | (with_reducible refine Kd.C_alloc ?_ _) | (with_reducible refine Kd.C_drewN ?_ _) | (with_reducible refine Kd.C_drew ?_))); (case side2 => exact HC1.out); rintro e w' ⟨rfl, ⟨nd, rfl⟩⟩; refine ⟨_, rfl, ?_⟩) | (go_at_call 15; (with_reducible refine (antiquaryref09_Metric.calls a0 false _ A7.out).mono ?_); rintro e w' ⟨rfl, ⟨nd, rfl⟩⟩))
        go_meet
        case rel => exact ⟨_, (true), (by first | rfl | (simp; done) | (simp [*]; done)), H', ⟨by first | omega | exact Nat.le_refl _⟩, ⟨by repeat (first | (with_reducible first | exact HB.out | apply below_alloc | apply pw_below_drewN | apply below_drew1) | exact HB.out)⟩⟩
    · replace c6 := Bool.eq_false_iff.mpr c6
      subst c6
      have H1 : (antiquarylaw27_GraphBuildIsExact.j0 k a0 l1 a2 true) = some r := by rw [if_neg (show ¬ (false = true) by decide)] at H; exact H
      clear H
      have H := H1
      clear H1
      have H' := Aside0.mk H
      clear H
      go_wp2_with (first | ((with_reducible refine gate_callee (f := 6) rfl ?_); refine goesL_ (some 18) rfl rfl Try.func6 (by kernel_rfl) rfl #[.slice A1 l1.length c1, .int .i64 25] rfl (by (try simp only [List.map_toArray, List.map_cons, List.map_nil]); first | done | rfl | (simp only [List.length_drop, List.length_take]; rfl)) ?_; (with_reducible refine (antiquaryref09_Few.calls k _ _ l1 25 false _ ?side1 ?side2 A5.out).mono ?_); (case side1 => repeat (first | exact (Kd.C_below HR1.out HB.out) | (with_reducible refine Kd.C_alloc ?_ _) | (with_reducible refine Kd.C_drewN ?_ _) | (with_reducible refine Kd.C_drew ?_))); (case side2 => exact HC1.out); rintro e w' ⟨rfl, ⟨nd, rfl⟩⟩; refine ⟨_, rfl, ?_⟩))
      go_meet
      case rel => exact ⟨_, (true), (by first | rfl | (simp; done) | (simp [*]; done)), H', ⟨by first | omega | exact Nat.le_refl _⟩, ⟨by repeat (first | (with_reducible first | exact HB.out | apply below_alloc | apply pw_below_drewN | apply below_drew1) | exact HB.out)⟩⟩
  case rest =>
    clear HC4
    try clear c1
    try clear p2
    try clear c4
    try clear c6
    try clear c8
    obtain ⟨kq, x29_3, rfl, HA, HJ3, HB⟩ := hcut
    cases kq with
    | zero => exact absurd HA.out (by simp [antiquarylaw27_GraphBuildIsExact.j0])
    | succ kj3 =>
      have H := HA.out
      clear HA
      simp only [antiquarylaw27_GraphBuildIsExact.j0] at H
      by_cases c10 : x29_3 = true
      · subst c10
        have H1 : ((antiquarylaw27_sanity.f).bind fun t189 => (some t189)) = some r := by rw [if_pos rfl] at H; exact H
        clear H
        have H := H1
        clear H1
        replace H := Option.bind_eq_some_iff.mp H
        obtain ⟨t189, A110, H⟩ := H
        replace H : (some t189) = some r := H
        have A11 := Aside0.mk A110
        clear A110
        obtain rfl := Option.some.inj H
        go_wp2_with (first | ((with_reducible refine gate_callee (f := 10) rfl ?_); refine goesL_ (some 30) rfl rfl Try.func10 (by kernel_rfl) rfl #[] rfl (by (try simp only [List.map_toArray, List.map_cons, List.map_nil]); first | done | rfl | (simp only [List.length_drop, List.length_take]; rfl)) ?_; (with_reducible refine (antiquarylaw27_sanity.calls  t189 _ A11.out).mono ?_); rintro e w12 ⟨rfl, hb⟩; refine ⟨_, rfl, ?_⟩; have n0_ := Aside0.mk (below_step (by repeat (first | (with_reducible first | exact HB.out | apply below_alloc | apply pw_below_drewN | apply below_drew1) | exact HB.out)) hb); clear HB; have HB := n0_; clear n0_; (try clear hb); (try clear hb2); (try clear hk); (try clear hi)))
        go_ret
        exact ⟨by first | rfl | (simp [errW_none, errW_some] <;> rfl) | (simp [*, errW_none, errW_some] <;> rfl), by repeat (first | (with_reducible first | exact HB.out | apply below_alloc | apply pw_below_drewN | apply below_drew1) | exact HB.out)⟩
      · replace c10 := Bool.eq_false_iff.mpr c10
        subst c10
        have H1 : ((graph_Build.f a0 l1 (wrap64 (1 + (wrap64 (a2))))).bind fun bt190 => ((graph_Check.f kj3 a0 l1 bt190.1).bind fun bt195 => (if bt190.2 = 0 then (if bt195.2 = 0 then (if bt195.1 = (-1) then ((graph_Valid.f kj3 (l1.length : Int) bt190.1).bind fun t197 => (if t197 = true then (antiquarylaw27_GraphBuildIsExact.j1 kj3 a0 l1 (wrap64 (1 + (wrap64 (a2)))) ((bt190.1.length : Int) != (l1.length : Int)) bt190.1) else (antiquarylaw27_GraphBuildIsExact.j1 kj3 a0 l1 (wrap64 (1 + (wrap64 (a2)))) true bt190.1))) else (antiquarylaw27_GraphBuildIsExact.j1 kj3 a0 l1 (wrap64 (1 + (wrap64 (a2)))) true bt190.1)) else (antiquarylaw27_GraphBuildIsExact.j1 kj3 a0 l1 (wrap64 (1 + (wrap64 (a2)))) true bt190.1)) else (antiquarylaw27_GraphBuildIsExact.j1 kj3 a0 l1 (wrap64 (1 + (wrap64 (a2)))) true bt190.1)))) = some r := by rw [if_neg (show ¬ (false = true) by decide)] at H; exact H
        clear H
        have H := H1
        clear H1
        replace H := Option.bind_eq_some_iff.mp H
        obtain ⟨⟨t190, t193⟩, A130, H⟩ := H
        replace H : ((graph_Check.f kj3 a0 l1 t190).bind fun bt195 => (if t193 = 0 then (if bt195.2 = 0 then (if bt195.1 = (-1) then ((graph_Valid.f kj3 (l1.length : Int) t190).bind fun t197 => (if t197 = true then (antiquarylaw27_GraphBuildIsExact.j1 kj3 a0 l1 (wrap64 (1 + (wrap64 (a2)))) ((t190.length : Int) != (l1.length : Int)) t190) else (antiquarylaw27_GraphBuildIsExact.j1 kj3 a0 l1 (wrap64 (1 + (wrap64 (a2)))) true t190))) else (antiquarylaw27_GraphBuildIsExact.j1 kj3 a0 l1 (wrap64 (1 + (wrap64 (a2)))) true t190)) else (antiquarylaw27_GraphBuildIsExact.j1 kj3 a0 l1 (wrap64 (1 + (wrap64 (a2)))) true t190)) else (antiquarylaw27_GraphBuildIsExact.j1 kj3 a0 l1 (wrap64 (1 + (wrap64 (a2)))) true t190))) = some r := H
        have A13 := Aside0.mk A130
        clear A130
        replace H := Option.bind_eq_some_iff.mp H
        obtain ⟨⟨t195, t196⟩, A140, H⟩ := H
        replace H : (if t193 = 0 then (if t196 = 0 then (if t195 = (-1) then ((graph_Valid.f kj3 (l1.length : Int) t190).bind fun t197 => (if t197 = true then (antiquarylaw27_GraphBuildIsExact.j1 kj3 a0 l1 (wrap64 (1 + (wrap64 (a2)))) ((t190.length : Int) != (l1.length : Int)) t190) else (antiquarylaw27_GraphBuildIsExact.j1 kj3 a0 l1 (wrap64 (1 + (wrap64 (a2)))) true t190))) else (antiquarylaw27_GraphBuildIsExact.j1 kj3 a0 l1 (wrap64 (1 + (wrap64 (a2)))) true t190)) else (antiquarylaw27_GraphBuildIsExact.j1 kj3 a0 l1 (wrap64 (1 + (wrap64 (a2)))) true t190)) else (antiquarylaw27_GraphBuildIsExact.j1 kj3 a0 l1 (wrap64 (1 + (wrap64 (a2)))) true t190)) = some r := H
        have A14 := Aside0.mk A140
        clear A140
        have HC15 := Aside0.mk H
        clear H
        go_upto_region 6 with (first | ((with_reducible refine gate_callee (f := 17) rfl ?_); refine goesL_ (some 38) rfl rfl Try.func17 (by kernel_rfl) rfl #[.int .i64 a0, .slice A1 l1.length c1, .int .i64 (wrap64 (1 + (wrap64 (a2))))] rfl (by (try simp only [List.map_toArray, List.map_cons, List.map_nil]); first | done | rfl | (simp only [List.length_drop, List.length_take]; rfl)) ?_; (with_reducible refine (graph_Build.calls a0 _ _ l1 (wrap64 (1 + (wrap64 (a2)))) t190 t193 _ ?side1 ?side2 A13.out).mono ?_); (case side1 => repeat (first | exact (Kd.C_below HR1.out HB.out) | (with_reducible refine Kd.C_alloc ?_ _) | (with_reducible refine Kd.C_drewN ?_ _) | (with_reducible refine Kd.C_drew ?_))); (case side2 => exact HC1.out); rintro e w16 ⟨v191, rfl, ho0, hb⟩; refine ⟨_, rfl, ?_⟩; have n0_ := Aside0.mk (Kd.S_lower ho0 (below_size (by repeat (first | (with_reducible first | exact HB.out | apply below_alloc | apply pw_below_drewN | apply below_drew1) | exact HB.out)))); have n1_ := Aside0.mk (below_step (by repeat (first | (with_reducible first | exact HB.out | apply below_alloc | apply pw_below_drewN | apply below_drew1) | exact HB.out)) hb); clear HB; have HO192 := n0_; have HB := n1_; clear n0_ n1_; (try clear hb); (try clear hb2); (try clear hk); (try clear hi); (try clear ho0)) | ((with_reducible refine gate_dst (N := 8) rfl ?_); (try (refine gate_guard (by rfl) ?_; dsimp only)); refine box_event ?hg (N := 8) ?hd (cs := #[.slice none 0 0]) (t := 25) ?hr ?_; (case hd => rfl); (case hg => rfl); (case hr => first | (go_simp; done) | (go_simp; rfl)); intro gb194 hg w17 hbox hb; have n0_ := Aside0.mk (Kd.S_below (by (with_reducible repeat (first | apply Kd.S_alloc | apply Kd.S_drewN | apply Kd.S_drew)); exact HO192.out) hb); have n1_ := Aside0.mk (below_step (by repeat (first | (with_reducible first | exact HB.out | apply below_alloc | apply pw_below_drewN | apply below_drew1) | exact HB.out)) hb); have n2_ := Aside0.mk (hbox); have n3_ := Aside0.mk ((by rw [hg]; exact (below_size (by repeat (first | (with_reducible first | exact HB.out | apply below_alloc | apply pw_below_drewN | apply below_drew1) | exact HB.out))) : w.heap.size ≤ gb194)); have n4_ := Aside0.mk ((by rw [hg]; exact (below_size (by repeat (first | (with_reducible first | exact HB.out | apply below_alloc | apply pw_below_drewN | apply below_drew1) | exact HB.out))) : w.heap.size ≤ gb194)); clear HO192; clear HB; have HO192 := n0_; have HB := n1_; have BK194 := n2_; have GW194 := n3_; have GE194 := n4_; clear n0_ n1_ n2_ n3_ n4_; clear hb hbox hg; obtain ⟨Ao18, co18, eo18⟩ := Kd.S_slice HO192.out; subst eo18; have hcz19_0 : w17.cell? ⟨gb194, 0, none⟩ = some (.slice none 0 0) := (blk_cell BK194.out 0).trans rfl; have hfz19_0 := blk_frozen BK194.out 0) | ((with_reducible refine gate_callee (f := 18) rfl ?_); refine goesL_ (some 45) rfl rfl Try.func18 (by kernel_rfl) rfl #[.int .i64 a0, .slice A1 l1.length c1, .agg #[.slice Ao18 t190.length co18]] rfl (by (try simp only [List.map_toArray, List.map_cons, List.map_nil]); first | done | rfl | (simp only [List.length_drop, List.length_take]; rfl)) ?_; (with_reducible refine (graph_Check.calls kj3 a0 _ _ l1 _ _ t190 t195 t196 _ ?side1 ?side2 ?side3 ?side4 A14.out).mono ?_); (case side1 => exact Kd.C_below HR1.out (by repeat (first | (with_reducible first | exact HB.out | apply below_alloc | apply pw_below_drewN | apply below_drew1 | refine below_set ?_ GE194.out) | exact HB.out))); (case side2 => exact HC1.out); (case side3 => refine (Kd.S_reads' (e := 39) (base := w.heap.size) (ok := fun k_ => True) (n := t190.length) (c := co18) ?_).2.2; exact (by (with_reducible repeat (first | apply Kd.S_alloc | apply Kd.S_drewN | apply Kd.S_drew)); exact (Kd.S_mono (Kd.S_far (p := ⟨gb194, 0, none⟩) (Kd.S_types HO192.out BK194.out (by decide)) (fun _ hk => hk.2) (.slice Ao18 t190.length co18)) (fun _ h_ => h_.1)))); (case side4 => exact (Kd.S_reads' HO192.out).2.1); rintro e w20 ⟨rfl, hb⟩; refine ⟨_, rfl, ?_⟩; have n0_ := Aside0.mk (Kd.S_below (by (with_reducible repeat (first | apply Kd.S_alloc | apply Kd.S_drewN | apply Kd.S_drew)); exact (Kd.S_mono (Kd.S_far (p := ⟨gb194, 0, none⟩) (Kd.S_types HO192.out BK194.out (by decide)) (fun _ hk => hk.2) (.slice Ao18 t190.length co18)) (fun _ h_ => h_.1))) hb); have n1_ := Aside0.mk (blk_below (g := gb194) (o := .cells #[.slice Ao18 t190.length co18] 25 (0, 0)) (by (with_reducible repeat (first | refine blk_drewN ?_ _ | refine blk_drew ?_ | refine blk_alloc ?_ _)); refine blk_put (cs := #[.slice none 0 0]) ?_ 0 _ rfl; (with_reducible repeat (first | refine blk_drewN ?_ _ | refine blk_drew ?_ | refine blk_alloc ?_ _)); exact BK194.out) hb); have n2_ := Aside0.mk (below_step (by repeat (first | (with_reducible first | exact HB.out | apply below_alloc | apply pw_below_drewN | apply below_drew1 | refine below_set ?_ GE194.out) | exact HB.out)) hb); clear HO192; clear BK194; clear HB; have HO192 := n0_; have BK194 := n1_; have HB := n2_; clear n0_ n1_ n2_; (try clear hb); (try clear hb2); (try clear hk); (try clear hi)))
        (try simp only [Act.put, List.setIfInBounds_toArray, List.set_cons_zero, List.set_cons_succ])
        go_cut [72] (fun v72 wc => ∃ (kq : Nat) (x72_14 : Bool), v72 = .bool x72_14 ∧ Aside0 (antiquarylaw27_GraphBuildIsExact.j1 kq a0 l1 (wrap64 (1 + (wrap64 (a2)))) x72_14 t190 = some r) ∧ Aside0 (kq ≤ kj3) ∧ Aside0 (Kd.S k39 39 wc w.heap.size (fun _ => True) (.slice Ao18 t190.length co18) t190) ∧ Aside0 (wc.heap[gb194]? = some (.cells #[(.slice Ao18 t190.length co18)] 25 (0, 0))) ∧ Aside0 (Below w.heap.size w wc))
        case first =>
          have H := HC15.out
          clear HC15
          by_cases c21 : t193 = 0
          · rw [if_pos c21] at H
            have c21b0 : (t193 == 0) = true := beq_iff_eq.mpr c21
            have c21b1 : (t193 != 0) = false := bne_eq_false_iff_eq.mpr c21
            clear c21
            (first | rw [c21b0] | (simp only [i64_w, i32_w]; rw [c21b0]) | skip)
            by_cases c22 : t196 = 0
            · rw [if_pos c22] at H
              have c22b0 : (t196 == 0) = true := beq_iff_eq.mpr c22
              have c22b1 : (t196 != 0) = false := bne_eq_false_iff_eq.mpr c22
              clear c22
              by_cases c23 : t195 = (-1)
              · rw [if_pos c23] at H
                have c23b0 : (t195 == (-1)) = true := beq_iff_eq.mpr c23
                have c23b1 : (t195 != (-1)) = false := bne_eq_false_iff_eq.mpr c23
                clear c23
                replace H := Option.bind_eq_some_iff.mp H
                obtain ⟨t197, A240, H⟩ := H
                replace H : (if t197 = true then (antiquarylaw27_GraphBuildIsExact.j1 kj3 a0 l1 (wrap64 (1 + (wrap64 (a2)))) ((t190.length : Int) != (l1.length : Int)) t190) else (antiquarylaw27_GraphBuildIsExact.j1 kj3 a0 l1 (wrap64 (1 + (wrap64 (a2)))) true t190)) = some r := H
                have A24 := Aside0.mk A240
                clear A240
                by_cases c25 : t197 = true
                · subst c25
                  have H1 : (antiquarylaw27_GraphBuildIsExact.j1 kj3 a0 l1 (wrap64 (1 + (wrap64 (a2)))) ((t190.length : Int) != (l1.length : Int)) t190) = some r := by rw [if_pos rfl] at H; exact H
                  clear H
                  have H := H1
                  clear H1
                  have H' := Aside0.mk H
                  clear H
                  have hcz26_0 : w20.cell? ⟨gb194, 0, none⟩ = some (.slice Ao18 t190.length co18) := (blk_cell BK194.out 0).trans rfl
                  have hfz26_0 := blk_frozen BK194.out 0
                  go_wp2_with (first | (go_at_call 19; (with_reducible refine (graph_Valid.calls kj3 (l1.length : Int) _ _ t190 true _ ?side1 ?side2 A24.out).mono ?_); (case side1 => repeat (first | exact (Kd.S_reads' HO192.out).2.2 | (with_reducible refine Kd.C_alloc ?_ _) | (with_reducible refine Kd.C_drewN ?_ _) | (with_reducible refine Kd.C_drew ?_))); (case side2 => exact (Kd.S_reads' HO192.out).2.1); rintro e w27 ⟨rfl, hb⟩; have n0_ := Aside0.mk (Kd.S_below (by (with_reducible repeat (first | apply Kd.S_alloc | apply Kd.S_drewN | apply Kd.S_drew)); exact HO192.out) hb); have n1_ := Aside0.mk (blk_below (g := gb194) (o := .cells #[.slice Ao18 t190.length co18] 25 (0, 0)) (by (with_reducible repeat (first | refine blk_drewN ?_ _ | refine blk_drew ?_ | refine blk_alloc ?_ _)); exact BK194.out) hb); have n2_ := Aside0.mk (below_step (by repeat (first | (with_reducible first | exact HB.out | apply below_alloc | apply pw_below_drewN | apply below_drew1 | refine below_set ?_ GE194.out) | exact HB.out)) hb); clear HO192; clear BK194; clear HB; have HO192 := n0_; have BK194 := n1_; have HB := n2_; clear n0_ n1_ n2_; (try clear hb); (try clear hb2); (try clear hk); (try clear hi); have hcz28_0 : w27.cell? ⟨gb194, 0, none⟩ = some (.slice Ao18 t190.length co18) := (blk_cell BK194.out 0).trans rfl; have hfz28_0 := blk_frozen BK194.out 0))
                  go_meet
                  case rel => exact ⟨_, (((t190.length : Int) != (l1.length : Int))), (by first | rfl | (simp; done) | (simp [*]; done)), H', ⟨by have := HJ3.out; first | omega | exact Nat.le_refl _⟩, ⟨by (with_reducible repeat (first | apply Kd.S_alloc | apply Kd.S_drewN | apply Kd.S_drew)); exact HO192.out⟩, ⟨by (with_reducible repeat (first | refine blk_drewN ?_ _ | refine blk_drew ?_ | refine blk_alloc ?_ _)); exact BK194.out⟩, ⟨by repeat (first | (with_reducible first | exact HB.out | apply below_alloc | apply pw_below_drewN | apply below_drew1 | refine below_set ?_ GE194.out) | exact HB.out)⟩⟩
                · replace c25 := Bool.eq_false_iff.mpr c25
                  subst c25
                  have H1 : (antiquarylaw27_GraphBuildIsExact.j1 kj3 a0 l1 (wrap64 (1 + (wrap64 (a2)))) true t190) = some r := by rw [if_neg (show ¬ (false = true) by decide)] at H; exact H
                  clear H
                  have H := H1
                  clear H1
                  have H' := Aside0.mk H
                  clear H
                  have hcz29_0 : w20.cell? ⟨gb194, 0, none⟩ = some (.slice Ao18 t190.length co18) := (blk_cell BK194.out 0).trans rfl
                  have hfz29_0 := blk_frozen BK194.out 0
                  go_wp2_with (first | (go_at_call 19; (with_reducible refine (graph_Valid.calls kj3 (l1.length : Int) _ _ t190 false _ ?side1 ?side2 A24.out).mono ?_); (case side1 => repeat (first | exact (Kd.S_reads' HO192.out).2.2 | (with_reducible refine Kd.C_alloc ?_ _) | (with_reducible refine Kd.C_drewN ?_ _) | (with_reducible refine Kd.C_drew ?_))); (case side2 => exact (Kd.S_reads' HO192.out).2.1); rintro e w30 ⟨rfl, hb⟩; have n0_ := Aside0.mk (Kd.S_below (by (with_reducible repeat (first | apply Kd.S_alloc | apply Kd.S_drewN | apply Kd.S_drew)); exact HO192.out) hb); have n1_ := Aside0.mk (blk_below (g := gb194) (o := .cells #[.slice Ao18 t190.length co18] 25 (0, 0)) (by (with_reducible repeat (first | refine blk_drewN ?_ _ | refine blk_drew ?_ | refine blk_alloc ?_ _)); exact BK194.out) hb); have n2_ := Aside0.mk (below_step (by repeat (first | (with_reducible first | exact HB.out | apply below_alloc | apply pw_below_drewN | apply below_drew1 | refine below_set ?_ GE194.out) | exact HB.out)) hb); clear HO192; clear BK194; clear HB; have HO192 := n0_; have BK194 := n1_; have HB := n2_; clear n0_ n1_ n2_; (try clear hb); (try clear hb2); (try clear hk); (try clear hi)))
                  go_meet
                  case rel => exact ⟨_, (true), (by first | rfl | (simp; done) | (simp [*]; done)), H', ⟨by have := HJ3.out; first | omega | exact Nat.le_refl _⟩, ⟨by (with_reducible repeat (first | apply Kd.S_alloc | apply Kd.S_drewN | apply Kd.S_drew)); exact HO192.out⟩, ⟨by (with_reducible repeat (first | refine blk_drewN ?_ _ | refine blk_drew ?_ | refine blk_alloc ?_ _)); exact BK194.out⟩, ⟨by repeat (first | (with_reducible first | exact HB.out | apply below_alloc | apply pw_below_drewN | apply below_drew1 | refine below_set ?_ GE194.out) | exact HB.out)⟩⟩
              · rw [if_neg c23] at H
                have c23b0 : (t195 == (-1)) = false := beq_eq_false_iff_ne.mpr c23
                have c23b1 : (t195 != (-1)) = true := bne_iff_ne.mpr c23
                have H' := Aside0.mk H
                clear H
                go_wp2
                go_meet
                case rel => exact ⟨_, (true), (by first | rfl | (simp; done) | (simp [*]; done)), H', ⟨by have := HJ3.out; first | omega | exact Nat.le_refl _⟩, ⟨by (with_reducible repeat (first | apply Kd.S_alloc | apply Kd.S_drewN | apply Kd.S_drew)); exact HO192.out⟩, ⟨by (with_reducible repeat (first | refine blk_drewN ?_ _ | refine blk_drew ?_ | refine blk_alloc ?_ _)); exact BK194.out⟩, ⟨by repeat (first | (with_reducible first | exact HB.out | apply below_alloc | apply pw_below_drewN | apply below_drew1 | refine below_set ?_ GE194.out) | exact HB.out)⟩⟩
            · rw [if_neg c22] at H
              have c22b0 : (t196 == 0) = false := beq_eq_false_iff_ne.mpr c22
              have c22b1 : (t196 != 0) = true := bne_iff_ne.mpr c22
              have H' := Aside0.mk H
              clear H
              go_wp2
              go_meet
              case rel => exact ⟨_, (true), (by first | rfl | (simp; done) | (simp [*]; done)), H', ⟨by have := HJ3.out; first | omega | exact Nat.le_refl _⟩, ⟨by (with_reducible repeat (first | apply Kd.S_alloc | apply Kd.S_drewN | apply Kd.S_drew)); exact HO192.out⟩, ⟨by (with_reducible repeat (first | refine blk_drewN ?_ _ | refine blk_drew ?_ | refine blk_alloc ?_ _)); exact BK194.out⟩, ⟨by repeat (first | (with_reducible first | exact HB.out | apply below_alloc | apply pw_below_drewN | apply below_drew1 | refine below_set ?_ GE194.out) | exact HB.out)⟩⟩
          · rw [if_neg c21] at H
            have c21b0 : (t193 == 0) = false := beq_eq_false_iff_ne.mpr c21
            have c21b1 : (t193 != 0) = true := bne_iff_ne.mpr c21
            (first | rw [c21b0] | (simp only [i64_w, i32_w]; rw [c21b0]) | skip)
            have H' := Aside0.mk H
            clear H
            go_wp2
            go_meet
            case rel => exact ⟨_, (true), (by first | rfl | (simp; done) | (simp [*]; done)), H', ⟨by have := HJ3.out; first | omega | exact Nat.le_refl _⟩, ⟨by (with_reducible repeat (first | apply Kd.S_alloc | apply Kd.S_drewN | apply Kd.S_drew)); exact HO192.out⟩, ⟨by (with_reducible repeat (first | refine blk_drewN ?_ _ | refine blk_drew ?_ | refine blk_alloc ?_ _)); exact BK194.out⟩, ⟨by repeat (first | (with_reducible first | exact HB.out | apply below_alloc | apply pw_below_drewN | apply below_drew1 | refine below_set ?_ GE194.out) | exact HB.out)⟩⟩
        case rest =>
          clear HC15
          try clear c1
          try clear c2
          try clear p2
          try clear c4
          try clear c6
          try clear p6
          try clear c8
          try clear c10
          try clear c17
          try clear c18
          try clear c21
          try clear c21b0
          try clear c21b1
          try clear c22
          try clear c22b0
          try clear c22b1
          try clear c23
          try clear c23b0
          try clear c23b1
          try clear c25
          try clear hcz19_0
          try clear hcz26_0
          try clear hcz28_0
          try clear hcz29_0
          try clear hfz19_0
          try clear hfz26_0
          try clear hfz28_0
          try clear hfz29_0
          try clear p2
          obtain ⟨kq, x72_14, rfl, HA, HJ14, HO_195000, BK194, HB⟩ := hcut
          cases kq with
          | zero => exact absurd HA.out (by simp [antiquarylaw27_GraphBuildIsExact.j1])
          | succ kj14 =>
            have H := HA.out
            clear HA
            simp only [antiquarylaw27_GraphBuildIsExact.j1] at H
            by_cases c31 : x72_14 = true
            · subst c31
              have H1 : (some false) = some r := by rw [if_pos rfl] at H; exact H
              clear H
              have H := H1
              clear H1
              obtain rfl := Option.some.inj H
              go_wp2
              go_ret
              exact ⟨by first | rfl | (simp [errW_none, errW_some] <;> rfl) | (simp [*, errW_none, errW_some] <;> rfl), by repeat (first | (with_reducible first | exact HB.out | apply below_alloc | apply pw_below_drewN | apply below_drew1 | refine below_set ?_ GE194.out) | exact HB.out)⟩
            · replace c31 := Bool.eq_false_iff.mpr c31
              subst c31
              have H1 : (antiquarylaw27_GraphBuildIsExact.l0 kj14 a0 l1 (wrap64 (1 + (wrap64 (a2)))) 0 t190) = some r := by rw [if_neg (show ¬ (false = true) by decide)] at H; exact H
              clear H
              have H := H1
              clear H1
              have H' := Aside0.mk H
              clear H
              go_wp2
              go_loopg [12] kj14 (fun kq v12 w' => ∃ (x12_3 : Int), v12 = .int .i64 x12_3 ∧ Aside0 (antiquarylaw27_GraphBuildIsExact.l0 kq a0 l1 (wrap64 (1 + (wrap64 (a2)))) x12_3 t190 = some r) ∧ Aside0 (kq ≤ kj14) ∧ Aside0 (Kd.S k39 39 w' w.heap.size (fun _ => True) (.slice Ao18 t190.length co18) t190) ∧ Aside0 (w'.heap[gb194]? = some (.cells #[(.slice Ao18 t190.length co18)] 25 (0, 0))) ∧ Aside0 (Below w.heap.size w w'))
              case atStart => exact ⟨(0), (by first | rfl | (simp; done) | (simp [*]; done)), H', ⟨Nat.le_refl _⟩, ⟨by (with_reducible repeat (first | apply Kd.S_alloc | apply Kd.S_drewN | apply Kd.S_drew)); exact HO_195000.out⟩, ⟨by (with_reducible repeat (first | refine blk_drewN ?_ _ | refine blk_drew ?_ | refine blk_alloc ?_ _)); exact BK194.out⟩, ⟨by repeat (first | (with_reducible first | exact HB.out | apply below_alloc | apply pw_below_drewN | apply below_drew1 | refine below_set ?_ GE194.out) | exact HB.out)⟩⟩
              case round =>
                clear H'
                try clear c1
                try clear c2
                try clear p2
                try clear c3
                try clear c4
                try clear c6
                try clear p6
                try clear c8
                try clear c10
                try clear c17
                try clear c18
                try clear c21
                try clear c21b0
                try clear c21b1
                try clear c22
                try clear c22b0
                try clear c22b1
                try clear c23
                try clear c23b0
                try clear c23b1
                try clear c25
                try clear c31
                try clear hcz19_0
                try clear hcz26_0
                try clear hcz28_0
                try clear hcz29_0
                try clear hfz19_0
                try clear hfz26_0
                try clear hfz28_0
                try clear hfz29_0
                try clear p2
                try clear p6
                obtain ⟨x12_3, rfl, HA, HK3, HO_195000, BK194, HB⟩ := hrel
                cases gk with
                | zero => exact absurd HA.out (by simp [antiquarylaw27_GraphBuildIsExact.l0])
                | succ k3 =>
                  have H := HA.out
                  clear HA
                  simp only [antiquarylaw27_GraphBuildIsExact.l0] at H
                  by_cases c32 : x12_3 < (l1.length : Int)
                  · rw [if_pos c32] at H
                    have c32b0 : decide (x12_3 < (l1.length : Int)) = true := decide_eq_true c32
                    clear c32
                    by_cases c33 : 0 ≤ x12_3
                    · rw [if_pos c33] at H
                      have c33b0 : decide (0 ≤ x12_3) = true := decide_eq_true c33
                      clear c33
                      by_cases c34 : x12_3 < (t190.length : Int)
                      · rw [if_pos c34] at H
                        have c34b0 : decide (x12_3 < (t190.length : Int)) = true := decide_eq_true c34
                        clear c34
                        have H' := Aside0.mk H
                        clear H
                        have hcz35_0 : wr.cell? ⟨gb194, 0, none⟩ = some (.slice Ao18 t190.length co18) := (blk_cell BK194.out 0).trans rfl
                        have hfz35_0 := blk_frozen BK194.out 0
                        have p199 : 0 ≤ (x12_3 : Int) := of_decide_eq_true (by first | (with_reducible assumption) | assumption)
                        have q199 : x12_3 < (t190.length : Int) := of_decide_eq_true (by first | (with_reducible assumption) | assumption)
                        obtain ⟨ad199, A199_1, c199_1, e199, hx199_0, hx199_1, hl199_1, hi199_1⟩ := at_T39 (Kd.S_reads' HO_195000.out).2.2 x12_3 p199 q199
                        cases e199
                        obtain ⟨ce199, hce199, hMe199, hcc199⟩ := Kd.S_get HO_195000.out z39 x12_3 p199 (by first | exact q199 | exact of_decide_eq_true (by first | (with_reducible assumption) | assumption) | (have e_ := (Kd.S_reads' HO_195000.out).1; omega))
                        obtain ⟨ve199_1, rfl, ge199_1⟩ := k39_openM hMe199
                        have hv199_1 := hcc199 1 _ rfl
                        rw [add_field _ _ 1 (by omega)] at hv199_1
                        replace hv199_1 := Option.some.inj (hv199_1.symm.trans hx199_1)
                        rw [hv199_1] at ge199_1
                        have HL199_1 := Aside0.mk (show Kd.R (Kd.int .i64) 3 _ _ _ _ ((rd_T39 t190 x12_3).f1) from ge199_1)
                        clear hv199_1 ge199_1
                        clear hcc199 hce199
                        have HR199_1 := Aside0.mk hi199_1
                        have HC199_1 := Aside0.mk hl199_1
                        clear hi199_1 hl199_1
                        replace p199 := eq_true p199
                        replace q199 := eq_true q199
                        go_wp2_with (first | ((with_reducible refine gate_dst (N := 13) rfl ?_); (try (refine gate_guard (by rfl) ?_; dsimp only)); refine box_event ?hg (N := 13) ?hd (cs := #[.int .i64 0, .slice none 0 0]) (t := 39) ?hr ?_; (case hd => rfl); (case hg => rfl); (case hr => first | (go_simp; done) | (go_simp; rfl)); intro gb200 hg w36 hbox hb; have n0_ := Aside0.mk (Kd.S_below (Kd.S_elderB (by (with_reducible repeat (first | apply Kd.S_alloc | apply Kd.S_drewN | apply Kd.S_drew)); exact HO_195000.out) gb200 (Nat.le_of_eq hg.symm)) hb); have n1_ := Aside0.mk (Kd.R_below (by (with_reducible repeat (first | apply Kd.R_alloc | apply Kd.R_drewN | apply Kd.R_drew)); exact HL199_1.out) hb); have n2_ := Aside0.mk (blk_below (g := gb194) (o := .cells #[.slice (some ad199) t190.length co18] 25 (0, 0)) (by (with_reducible repeat (first | refine blk_drewN ?_ _ | refine blk_drew ?_ | refine blk_alloc ?_ _)); exact BK194.out) hb); have n3_ := Aside0.mk (Kd.C_below (by repeat (first | (with_reducible exact HR199_1.out) | (with_reducible refine Kd.C_alloc ?_ _) | (with_reducible refine Kd.C_drewN ?_ _) | (with_reducible refine Kd.C_drew ?_) | exact HR199_1.out)) hb); have n4_ := Aside0.mk (below_step (by repeat (first | (with_reducible first | exact HB.out | apply below_alloc | apply pw_below_drewN | apply below_drew1 | refine below_set ?_ GE194.out) | exact HB.out)) hb); have n5_ := Aside0.mk (hbox); have n6_ := Aside0.mk ((by rw [hg]; exact (below_size (by repeat (first | (with_reducible first | exact HB.out | apply below_alloc | apply pw_below_drewN | apply below_drew1 | refine below_set ?_ GE194.out) | exact HB.out))) : w.heap.size ≤ gb200)); have n7_ := Aside0.mk ((by rw [hg]; exact (below_size (by repeat (first | (with_reducible first | exact HB.out | apply below_alloc | apply pw_below_drewN | apply below_drew1 | refine below_set ?_ GE194.out) | exact HB.out))) : w.heap.size ≤ gb200)); have n8_ := Aside0.mk ((by rw [hg]; exact Nat.ne_of_lt (blk_lt (g := gb194) (o := .cells #[.slice (some ad199) t190.length co18] 25 (0, 0)) (by (with_reducible repeat (first | refine blk_drewN ?_ _ | refine blk_drew ?_ | refine blk_alloc ?_ _)); exact BK194.out)) : gb194 ≠ gb200)); have n9_ := Aside0.mk ((by rw [hg]; exact Nat.ne_of_gt (blk_lt (g := gb194) (o := .cells #[.slice (some ad199) t190.length co18] 25 (0, 0)) (by (with_reducible repeat (first | refine blk_drewN ?_ _ | refine blk_drew ?_ | refine blk_alloc ?_ _)); exact BK194.out)) : gb200 ≠ gb194)); clear HO_195000; clear HL199_1; clear BK194; clear HR199_1; clear HB; have HO_195000 := n0_; have HL199_1 := n1_; have BK194 := n2_; have HR199_1 := n3_; have HB := n4_; have BK200 := n5_; have GW200 := n6_; have GE200 := n7_; have NB194_200 := n8_; have NB200_194 := n9_; clear n0_ n1_ n2_ n3_ n4_ n5_ n6_ n7_ n8_ n9_; clear hb hbox hg; have hnb37 := NB200_194.out; have hnc37 := NB194_200.out; have hcz38_0 : w36.cell? ⟨gb200, 0, none⟩ = some (.int .i64 0) := (blk_cell BK200.out 0).trans rfl; have hcz38_1 : w36.cell? ⟨gb200, 1, none⟩ = some (.slice none 0 0) := (blk_cell BK200.out 1).trans rfl; have hfz38_0 := blk_frozen BK200.out 0; have hfz38_1 := blk_frozen BK200.out 1))
                        go_loopg [14, 15] k3 (fun kq v14 v15 w' => ∃ (x14_4 : Int) (x15_4 : Int), v14 = .int .i64 x14_4 ∧ v15 = .int .i64 x15_4 ∧ Aside0 (antiquarylaw27_GraphBuildIsExact.l1 kq a0 l1 (wrap64 (1 + (wrap64 (a2)))) x12_3 x14_4 x15_4 t190 ((rd_T39 t190 x12_3).f0) ((rd_T39 t190 x12_3).f1) = some r) ∧ Aside0 (kq ≤ k3) ∧ Aside0 (Kd.S k39 39 w' w.heap.size (fun k_ => k_ ≠ gb200) (.slice (some ad199) t190.length co18) t190) ∧ Aside0 (w'.heap[gb194]? = some (.cells #[(.slice (some ad199) t190.length co18)] 25 (0, 0))) ∧ Aside0 (w'.heap[gb200]? = some (.cells #[.int .i64 ((rd_T39 t190 x12_3).f0), (.slice A199_1 ((rd_T39 t190 x12_3).f1).length c199_1)] 39 (0, 0))) ∧ Aside0 (Kd.C (Kd.int .i64) w' A199_1 ((rd_T39 t190 x12_3).f1).length ((rd_T39 t190 x12_3).f1)) ∧ Aside0 (Below w.heap.size w w'))
                        case atStart => exact ⟨(0), (0), (by first | rfl | (simp; done) | (simp [*]; done)), (by first | rfl | (simp; done) | (simp [*]; done)), H', ⟨Nat.le_refl _⟩, ⟨by (with_reducible repeat (first | apply Kd.S_alloc | apply Kd.S_drewN | apply Kd.S_drew)); exact Kd.S_mono (Kd.S_far (p := ⟨gb200, 1, none⟩) (Kd.S_far (p := ⟨gb200, 0, none⟩) (Kd.S_mono HO_195000.out (fun k_ hk => (⟨hk, hk.2⟩ : _ ∧ k_ ≠ gb200))) (fun _ hk => hk.2) (.int .i64 ((rd_T39 t190 x12_3).f0))) (fun _ hk => hk.2) (.slice A199_1 ((rd_T39 t190 x12_3).f1).length c199_1)) (fun _ hk => hk.1.2)⟩, ⟨by (with_reducible repeat (first | refine blk_drewN ?_ _ | refine blk_drew ?_ | refine blk_alloc ?_ _)); refine blk_far ?_ NB194_200.out _; (with_reducible repeat (first | refine blk_drewN ?_ _ | refine blk_drew ?_ | refine blk_alloc ?_ _)); refine blk_far ?_ NB194_200.out _; (with_reducible repeat (first | refine blk_drewN ?_ _ | refine blk_drew ?_ | refine blk_alloc ?_ _)); exact BK194.out⟩, ⟨by (with_reducible repeat (first | refine blk_drewN ?_ _ | refine blk_drew ?_ | refine blk_alloc ?_ _)); refine blk_put (cs := #[.int .i64 ((rd_T39 t190 x12_3).f0), .slice none 0 0]) ?_ 1 _ rfl; (with_reducible repeat (first | refine blk_drewN ?_ _ | refine blk_drew ?_ | refine blk_alloc ?_ _)); refine blk_put (cs := #[.int .i64 0, .slice none 0 0]) ?_ 0 _ rfl; (with_reducible repeat (first | refine blk_drewN ?_ _ | refine blk_drew ?_ | refine blk_alloc ?_ _)); exact BK200.out⟩, ⟨(Kd.R_reads' (by (with_reducible repeat (first | apply Kd.R_alloc | apply Kd.R_drewN | apply Kd.R_drew)); exact (Kd.R_mono (Kd.R_far (p := ⟨gb200, 1, none⟩) (Kd.R_far (p := ⟨gb200, 0, none⟩) (Kd.R_types HL199_1.out BK200.out (by decide)) (fun _ hk => hk.2) (.int .i64 ((rd_T39 t190 x12_3).f0))) (fun _ hk => hk.2) (.slice A199_1 ((rd_T39 t190 x12_3).f1).length c199_1)) (fun _ h_ => h_.1)))).2.2⟩, ⟨by repeat (first | (with_reducible first | exact HB.out | apply below_alloc | apply pw_below_drewN | apply below_drew1 | refine below_set ?_ GE194.out | refine below_set ?_ GE200.out) | exact HB.out)⟩⟩
                        case round =>
                          clear H'
                          try clear c1
                          try clear p1
                          try clear q1
                          try clear hx1
                          try clear c2
                          try clear p2
                          try clear c3
                          try clear c4
                          try clear c6
                          try clear p6
                          try clear c8
                          try clear c10
                          try clear c17
                          try clear c18
                          try clear c19
                          try clear p19
                          try clear q19
                          try clear hx19
                          try clear c21
                          try clear c21b0
                          try clear c21b1
                          try clear c22
                          try clear c22b0
                          try clear c22b1
                          try clear c23
                          try clear c23b0
                          try clear c23b1
                          try clear c25
                          try clear c31
                          try clear c32
                          try clear c32b0
                          try clear c33
                          try clear c33b0
                          try clear c34
                          try clear c34b0
                          try clear c37
                          try clear hcz19_0
                          try clear hcz26_0
                          try clear hcz28_0
                          try clear hcz29_0
                          try clear hcz35_0
                          try clear hcz38_0
                          try clear hcz38_1
                          try clear hfz19_0
                          try clear hfz26_0
                          try clear hfz28_0
                          try clear hfz29_0
                          try clear hfz35_0
                          try clear hfz38_0
                          try clear hfz38_1
                          try clear hx199_0
                          try clear hx199_1
                          try clear p199
                          try clear p2
                          try clear p6
                          try clear q199
                          obtain ⟨x14_4, x15_4, rfl, rfl, HA, HK4, HO_195000, BK194, BK200, HR199_1, HB⟩ := hrel
                          cases gk with
                          | zero => exact absurd HA.out (by simp [antiquarylaw27_GraphBuildIsExact.l1])
                          | succ k4 =>
                            have H := HA.out
                            clear HA
                            simp only [antiquarylaw27_GraphBuildIsExact.l1] at H
                            by_cases c39 : x15_4 < (l1.length : Int)
                            · rw [if_pos c39] at H
                              have c39b0 : decide (x15_4 < (l1.length : Int)) = true := decide_eq_true c39
                              clear c39
                              by_cases c40 : 0 ≤ x12_3
                              · rw [if_pos c40] at H
                                have c40b0 : decide (0 ≤ x12_3) = true := decide_eq_true c40
                                clear c40
                                by_cases c41 : x12_3 < (l1.length : Int)
                                · rw [if_pos c41] at H
                                  have c41b0 : decide (x12_3 < (l1.length : Int)) = true := decide_eq_true c41
                                  clear c41
                                  by_cases c42 : 0 ≤ x15_4
                                  · rw [if_pos c42] at H
                                    have c42b0 : decide (0 ≤ x15_4) = true := decide_eq_true c42
                                    clear c42
                                    replace H := Option.bind_eq_some_iff.mp H
                                    obtain ⟨t203, A430, H⟩ := H
                                    replace H : (if t203 < ((rd_T39 t190 x12_3).f0) then (antiquarylaw27_GraphBuildIsExact.l1 k4 a0 l1 (wrap64 (1 + (wrap64 (a2)))) x12_3 (wrap64 (x14_4 + 1)) (wrap64 (x15_4 + 1)) t190 ((rd_T39 t190 x12_3).f0) ((rd_T39 t190 x12_3).f1)) else (antiquarylaw27_GraphBuildIsExact.l1 k4 a0 l1 (wrap64 (1 + (wrap64 (a2)))) x12_3 x14_4 (wrap64 (x15_4 + 1)) t190 ((rd_T39 t190 x12_3).f0) ((rd_T39 t190 x12_3).f1))) = some r := H
                                    have A43 := Aside0.mk A430
                                    clear A430
                                    by_cases c44 : t203 < ((rd_T39 t190 x12_3).f0)
                                    · rw [if_pos c44] at H
                                      have c44b0 : decide (t203 < ((rd_T39 t190 x12_3).f0)) = true := decide_eq_true c44
                                      clear c44
                                      have H' := Aside0.mk H
                                      clear H
                                      try go_wp2
                                      have n0_ := Aside0.mk (Kd.S_drew HO_195000.out)
                                      have n1_ := Aside0.mk (blk_drew BK194.out)
                                      have n2_ := Aside0.mk (blk_drew BK200.out)
                                      have n3_ := Aside0.mk (Kd.C_drew HR199_1.out)
                                      have n4_ := Aside0.mk (below_drew1 HB.out)
                                      clear HO_195000
                                      clear BK194
                                      clear BK200
                                      clear HR199_1
                                      clear HB
                                      have HO_195000 := n0_
                                      have BK194 := n1_
                                      have BK200 := n2_
                                      have HR199_1 := n3_
                                      have HB := n4_
                                      clear n0_ n1_ n2_ n3_ n4_
                                      have p201 : 0 ≤ (x12_3 : Int) := of_decide_eq_true (by first | (with_reducible assumption) | assumption)
                                      have q201 : x12_3 < (l1.length : Int) := of_decide_eq_true (by first | (with_reducible assumption) | assumption)
                                      obtain ⟨ad201, A201_0, c201_0, e201, hx201_0, hl201_0, hi201_0⟩ := at_L1 HR1.out x12_3 p201 q201
                                      have hw201_0 := hx201_0
                                      cases e201
                                      replace hx201_0 := (HB.out.cell (World.block_lt_of_cell? w _ hx201_0)).trans hx201_0
                                      have HR201_0 := Aside0.mk hi201_0
                                      have HC201_0 := Aside0.mk hl201_0
                                      clear hi201_0 hl201_0
                                      replace p201 := eq_true p201
                                      replace q201 := eq_true q201
                                      have p202 : 0 ≤ (x15_4 : Int) := of_decide_eq_true (by first | (with_reducible assumption) | assumption)
                                      have q202 : x15_4 < (l1.length : Int) := of_decide_eq_true (by first | (with_reducible assumption) | assumption)
                                      obtain ⟨ad202, A202_0, c202_0, e202, hx202_0, hl202_0, hi202_0⟩ := at_L1 HR1.out x15_4 p202 q202
                                      have hw202_0 := hx202_0
                                      obtain rfl : ad201 = ad202 := (by injection e202)
                                      replace hx202_0 := (HB.out.cell (World.block_lt_of_cell? w _ hx202_0)).trans hx202_0
                                      have HR202_0 := Aside0.mk hi202_0
                                      have HC202_0 := Aside0.mk hl202_0
                                      clear hi202_0 hl202_0
                                      replace p202 := eq_true p202
                                      replace q202 := eq_true q202
                                      refine start_ (n := 11) (S := fun w' => w'.cell? (ad201.add (x12_3).toNat) = some (.slice A201_0 (rd_L1 l1 x12_3).length c201_0) ∧ w'.cell? (ad201.add (x15_4).toNat) = some (.slice A202_0 (rd_L1 l1 x15_4).length c202_0)) (ds := []) #[false, false, false, false, false, false, false, false, false, false, false] (by kernel_rfl) rfl rfl ⟨((HB.out.cell (World.block_lt_of_cell? w _ hw201_0)).trans hw201_0), ((HB.out.cell (World.block_lt_of_cell? w _ hw202_0)).trans hw202_0)⟩ (fun hHeld => ?_); refine with_tabW antiquarylaw27_GraphBuildIsExact.tab16 antiquarylaw27_GraphBuildIsExact.bits16 (fun HT_ HW_ => ?_)
                                      generalize wr.drew = w45 at HO_195000 BK194 BK200 HR199_1 HB HR201_0 HR202_0 hx201_0 hx202_0 hHeld ⊢
                                      refine pure_ (i := 0) (N := some 90) (v := ?_) (a' := ?_) #[true, false, false, false, false, false, false, false, false, false, false] rfl rfl (any_of HT_.out (by kernel_rfl)) (fun _ _ _ h => h) (Or.inl ⟨by rfl, ?_⟩) ?_ ?_
                                      rotate_left
                                      · intro w'
                                        go_simp
                                        with_reducible rfl
                                      rotate_left
                                      · simp only [Act.put, List.setIfInBounds_toArray, List.set_cons_zero, List.set_cons_succ, i64_w, i32_w]
                                        rfl
                                      refine pure_ (i := 1) (N := some 91) (v := ?_) (a' := ?_) #[true, true, false, false, false, false, false, false, false, false, false] rfl rfl (any_of HT_.out (by kernel_rfl)) (fun _ _ _ h => h) (Or.inl ⟨by rfl, ?_⟩) ?_ ?_
                                      rotate_left
                                      · intro w'
                                        go_simp
                                        with_reducible rfl
                                      rotate_left
                                      · simp only [Act.put, List.setIfInBounds_toArray, List.set_cons_zero, List.set_cons_succ, i64_w, i32_w]
                                        rfl
                                      refine pure_ (i := 2) (N := some 92) (v := ?_) (a' := ?_) #[true, true, true, false, false, false, false, false, false, false, false] rfl rfl (any_of HT_.out (by kernel_rfl)) (fun _ _ _ h => h) (Or.inl ⟨by rfl, ?_⟩) ?_ ?_
                                      rotate_left
                                      · intro w'
                                        go_simp
                                        with_reducible rfl
                                      rotate_left
                                      · simp only [Act.put, List.setIfInBounds_toArray, List.set_cons_zero, List.set_cons_succ, i64_w, i32_w]
                                        rfl
                                      refine pure_ (i := 3) (N := some 93) (v := ?_) (a' := ?_) #[true, true, true, true, false, false, false, false, false, false, false] rfl rfl (any_of HT_.out (by kernel_rfl)) (fun _ _ _ h => h) (Or.inl ⟨by rfl, ?_⟩) ?_ ?_
                                      rotate_left
                                      · intro w'
                                        go_simp
                                        with_reducible rfl
                                      rotate_left
                                      · simp only [Act.put, List.setIfInBounds_toArray, List.set_cons_zero, List.set_cons_succ, i64_w, i32_w]
                                        rfl
                                      refine pure_ (i := 5) (N := some 95) (v := ?_) (a' := ?_) #[true, true, true, true, false, true, false, false, false, false, false] rfl rfl (any_of HT_.out (by kernel_rfl)) (fun _ _ _ h => h) (Or.inl ⟨by rfl, ?_⟩) ?_ ?_
                                      rotate_left
                                      · intro w'
                                        go_simp
                                        with_reducible rfl
                                      rotate_left
                                      · simp only [Act.put, List.setIfInBounds_toArray, List.set_cons_zero, List.set_cons_succ, i64_w, i32_w]
                                        rfl
                                      refine pure_ (i := 6) (N := some 96) (v := ?_) (a' := ?_) #[true, true, true, true, false, true, true, false, false, false, false] rfl rfl (any_of HT_.out (by kernel_rfl)) (fun _ _ _ h => h) (Or.inl ⟨by rfl, ?_⟩) ?_ ?_
                                      rotate_left
                                      · intro w'
                                        go_simp
                                        with_reducible rfl
                                      rotate_left
                                      · simp only [Act.put, List.setIfInBounds_toArray, List.set_cons_zero, List.set_cons_succ, i64_w, i32_w]
                                        rfl
                                      refine pure_ (i := 7) (N := some 97) (v := ?_) (a' := ?_) #[true, true, true, true, false, true, true, true, false, false, false] rfl rfl (any_of HT_.out (by kernel_rfl)) (fun _ _ _ h => h) (Or.inl ⟨by rfl, ?_⟩) ?_ ?_
                                      rotate_left
                                      · intro w'
                                        go_simp
                                        with_reducible rfl
                                      rotate_left
                                      · simp only [Act.put, List.setIfInBounds_toArray, List.set_cons_zero, List.set_cons_succ, i64_w, i32_w]
                                        rfl
                                      refine take_ (i := 4) (N := some 94) (v := ?_) (a' := ?_) #[true, true, true, true, true, true, true, true, false, false, false] rfl rfl (take_ofW HT_.out HW_.out (by kernel_rfl)) (fun _ _ _ h => h) (Or.inl ⟨by rfl, ?_⟩) hHeld ?_ ?_
                                      rotate_left
                                      · rintro w' ⟨s0, s1⟩
                                        go_simp
                                        with_reducible rfl
                                      rotate_left
                                      · simp only [Act.put, List.setIfInBounds_toArray, List.set_cons_zero, List.set_cons_succ, i64_w, i32_w]
                                        rfl
                                      refine take_ (i := 8) (N := some 98) (v := ?_) (a' := ?_) #[true, true, true, true, true, true, true, true, true, false, false] rfl rfl (take_ofW HT_.out HW_.out (by kernel_rfl)) (fun _ _ _ h => h) (Or.inl ⟨by rfl, ?_⟩) hHeld ?_ ?_
                                      rotate_left
                                      · rintro w' ⟨s0, s1⟩
                                        go_simp
                                        with_reducible rfl
                                      rotate_left
                                      · simp only [Act.put, List.setIfInBounds_toArray, List.set_cons_zero, List.set_cons_succ, i64_w, i32_w]
                                        rfl
                                      refine one_ (i := 9) (N := some 99) #[true, true, true, true, true, true, true, true, true, true, false] rfl rfl (one_of HT_.out (by kernel_rfl)) (by decide) (fun K hK => ?_)
                                      refine goes_ Try.func14 (by kernel_rfl) rfl #[.int .i64 a0, .slice A201_0 (rd_L1 l1 x12_3).length c201_0, .slice A202_0 (rd_L1 l1 x15_4).length c202_0] (by rfl) rfl rfl (by (try simp only [List.map_toArray, List.map_cons, List.map_nil]); first | done | rfl | (simp only [List.length_drop, List.length_take]; rfl)) ?_
                                      with_reducible refine (vector_Key.calls k4 a0 _ _ (rd_L1 l1 x12_3) _ _ (rd_L1 l1 x15_4) t203 _ ?side1 ?side2 ?side3 ?side4 A43.out).mono ?_
                                      (case side1 => repeat (first | exact (Kd.C_below HR201_0.out HB.out) | (with_reducible refine Kd.C_alloc ?_ _) | (with_reducible refine Kd.C_drewN ?_ _) | (with_reducible refine Kd.C_drew ?_)))
                                      (case side2 => exact HC201_0.out)
                                      (case side3 => repeat (first | exact (Kd.C_below HR202_0.out HB.out) | (with_reducible refine Kd.C_alloc ?_ _) | (with_reducible refine Kd.C_drewN ?_ _) | (with_reducible refine Kd.C_drew ?_)))
                                      (case side4 => exact HC202_0.out)
                                      rintro e w46 ⟨rfl, hb⟩
                                      refine ⟨_, rfl, ?_⟩
                                      have n0_ := Aside0.mk (Kd.S_below (by (with_reducible repeat (first | apply Kd.S_alloc | apply Kd.S_drewN | apply Kd.S_drew)); exact HO_195000.out) hb)
                                      have n1_ := Aside0.mk (blk_below (g := gb194) (o := .cells #[.slice (some ad199) t190.length co18] 25 (0, 0)) (by (with_reducible repeat (first | refine blk_drewN ?_ _ | refine blk_drew ?_ | refine blk_alloc ?_ _)); exact BK194.out) hb)
                                      have n2_ := Aside0.mk (blk_below (g := gb200) (o := .cells #[.int .i64 ((rd_T39 t190 x12_3).f0), .slice A199_1 ((rd_T39 t190 x12_3).f1).length c199_1] 39 (0, 0)) (by (with_reducible repeat (first | refine blk_drewN ?_ _ | refine blk_drew ?_ | refine blk_alloc ?_ _)); exact BK200.out) hb)
                                      have n3_ := Aside0.mk (Kd.C_below (by repeat (first | (with_reducible exact HR199_1.out) | (with_reducible refine Kd.C_alloc ?_ _) | (with_reducible refine Kd.C_drewN ?_ _) | (with_reducible refine Kd.C_drew ?_) | exact HR199_1.out)) hb)
                                      have n4_ := Aside0.mk (below_step (by repeat (first | (with_reducible first | exact HB.out | apply below_alloc | apply pw_below_drewN | apply below_drew1 | refine below_set ?_ GE194.out | refine below_set ?_ GE200.out) | exact HB.out)) hb)
                                      clear HO_195000
                                      clear BK194
                                      clear BK200
                                      clear HR199_1
                                      clear HB
                                      have HO_195000 := n0_
                                      have BK194 := n1_
                                      have BK200 := n2_
                                      have HR199_1 := n3_
                                      have HB := n4_
                                      clear n0_ n1_ n2_ n3_ n4_
                                      (try clear hb)
                                      (try clear hb2)
                                      (try clear hk)
                                      (try clear hi)
                                      refine hK.out _ _ ⟨((HB.out.cell (World.block_lt_of_cell? w _ hw201_0)).trans hw201_0), ((HB.out.cell (World.block_lt_of_cell? w _ hw202_0)).trans hw202_0)⟩ (fun hHeld => ?_)
                                      clear hK K
                                      refine norm_ (a' := ?_) ?_ ?_
                                      rotate_left
                                      · show Act.put _ (some 99) _ = _
                                        simp only [Act.put, List.setIfInBounds_toArray, List.set_cons_zero, List.set_cons_succ, i64_w, i32_w]
                                        rfl
                                      refine pure_ (i := 10) (N := some 16) (v := ?_) (a' := ?_) #[true, true, true, true, true, true, true, true, true, true, true] rfl rfl (any_of HT_.out (by kernel_rfl)) (fun _ _ _ h => h) (Or.inl ⟨by rfl, ?_⟩) ?_ ?_
                                      rotate_left
                                      · intro w'
                                        go_simp
                                        with_reducible rfl
                                      rotate_left
                                      · simp only [Act.put, List.setIfInBounds_toArray, List.set_cons_zero, List.set_cons_succ, i64_w, i32_w]
                                        rfl
                                      refine done_ (done_of HT_.out (by kernel_rfl)) ?_
                                      have hnb47 := NB200_194.out
                                      have hnc47 := NB194_200.out
                                      have hcz48_0 : w46.cell? ⟨gb200, 0, none⟩ = some (.int .i64 ((rd_T39 t190 x12_3).f0)) := (blk_cell BK200.out 0).trans rfl
                                      have hcz48_1 : w46.cell? ⟨gb200, 1, none⟩ = some (.slice A199_1 ((rd_T39 t190 x12_3).f1).length c199_1) := (blk_cell BK200.out 1).trans rfl
                                      have hfz48_0 := blk_frozen BK200.out 0
                                      have hfz48_1 := blk_frozen BK200.out 1
                                      try go_wp2
                                      go_roundg k4
                                      case measure => have := HJ3.out; have := HJ14.out; have := HK3.out; have := HK4.out; omega
                                      case rel => exact ⟨(wrap64 (x14_4 + 1)), (wrap64 (x15_4 + 1)), (by first | rfl | (simp; done) | (simp [*]; done)), (by first | rfl | (simp; done) | (simp [*]; done)), H', ⟨by have := HJ3.out; have := HJ14.out; have := HK3.out; have := HK4.out; omega⟩, ⟨by (with_reducible repeat (first | apply Kd.S_alloc | apply Kd.S_drewN | apply Kd.S_drew)); exact HO_195000.out⟩, ⟨by (with_reducible repeat (first | refine blk_drewN ?_ _ | refine blk_drew ?_ | refine blk_alloc ?_ _)); exact BK194.out⟩, ⟨by (with_reducible repeat (first | refine blk_drewN ?_ _ | refine blk_drew ?_ | refine blk_alloc ?_ _)); exact BK200.out⟩, ⟨by repeat (first | (with_reducible exact HR199_1.out) | (with_reducible refine Kd.C_alloc ?_ _) | (with_reducible refine Kd.C_drewN ?_ _) | (with_reducible refine Kd.C_drew ?_) | exact HR199_1.out)⟩, ⟨by repeat (first | (with_reducible first | exact HB.out | apply below_alloc | apply pw_below_drewN | apply below_drew1 | refine below_set ?_ GE194.out | refine below_set ?_ GE200.out) | exact HB.out)⟩⟩
                                    · rw [if_neg c44] at H
                                      have c44b0 : decide (t203 < ((rd_T39 t190 x12_3).f0)) = false := decide_eq_false c44
                                      clear c44
                                      have H' := Aside0.mk H
                                      clear H
                                      try go_wp2
                                      have n0_ := Aside0.mk (Kd.S_drew HO_195000.out)
                                      have n1_ := Aside0.mk (blk_drew BK194.out)
                                      have n2_ := Aside0.mk (blk_drew BK200.out)
                                      have n3_ := Aside0.mk (Kd.C_drew HR199_1.out)
                                      have n4_ := Aside0.mk (below_drew1 HB.out)
                                      clear HO_195000
                                      clear BK194
                                      clear BK200
                                      clear HR199_1
                                      clear HB
                                      have HO_195000 := n0_
                                      have BK194 := n1_
                                      have BK200 := n2_
                                      have HR199_1 := n3_
                                      have HB := n4_
                                      clear n0_ n1_ n2_ n3_ n4_
                                      have p201 : 0 ≤ (x12_3 : Int) := of_decide_eq_true (by first | (with_reducible assumption) | assumption)
                                      have q201 : x12_3 < (l1.length : Int) := of_decide_eq_true (by first | (with_reducible assumption) | assumption)
                                      obtain ⟨ad201, A201_0, c201_0, e201, hx201_0, hl201_0, hi201_0⟩ := at_L1 HR1.out x12_3 p201 q201
                                      have hw201_0 := hx201_0
                                      cases e201
                                      replace hx201_0 := (HB.out.cell (World.block_lt_of_cell? w _ hx201_0)).trans hx201_0
                                      have HR201_0 := Aside0.mk hi201_0
                                      have HC201_0 := Aside0.mk hl201_0
                                      clear hi201_0 hl201_0
                                      replace p201 := eq_true p201
                                      replace q201 := eq_true q201
                                      have p202 : 0 ≤ (x15_4 : Int) := of_decide_eq_true (by first | (with_reducible assumption) | assumption)
                                      have q202 : x15_4 < (l1.length : Int) := of_decide_eq_true (by first | (with_reducible assumption) | assumption)
                                      obtain ⟨ad202, A202_0, c202_0, e202, hx202_0, hl202_0, hi202_0⟩ := at_L1 HR1.out x15_4 p202 q202
                                      have hw202_0 := hx202_0
                                      obtain rfl : ad201 = ad202 := (by injection e202)
                                      replace hx202_0 := (HB.out.cell (World.block_lt_of_cell? w _ hx202_0)).trans hx202_0
                                      have HR202_0 := Aside0.mk hi202_0
                                      have HC202_0 := Aside0.mk hl202_0
                                      clear hi202_0 hl202_0
                                      replace p202 := eq_true p202
                                      replace q202 := eq_true q202
                                      refine start_ (n := 11) (S := fun w' => w'.cell? (ad201.add (x12_3).toNat) = some (.slice A201_0 (rd_L1 l1 x12_3).length c201_0) ∧ w'.cell? (ad201.add (x15_4).toNat) = some (.slice A202_0 (rd_L1 l1 x15_4).length c202_0)) (ds := []) #[false, false, false, false, false, false, false, false, false, false, false] (by kernel_rfl) rfl rfl ⟨((HB.out.cell (World.block_lt_of_cell? w _ hw201_0)).trans hw201_0), ((HB.out.cell (World.block_lt_of_cell? w _ hw202_0)).trans hw202_0)⟩ (fun hHeld => ?_); refine with_tabW antiquarylaw27_GraphBuildIsExact.tab16 antiquarylaw27_GraphBuildIsExact.bits16 (fun HT_ HW_ => ?_)
                                      generalize wr.drew = w49 at HO_195000 BK194 BK200 HR199_1 HB HR201_0 HR202_0 hx201_0 hx202_0 hHeld ⊢
                                      refine pure_ (i := 0) (N := some 90) (v := ?_) (a' := ?_) #[true, false, false, false, false, false, false, false, false, false, false] rfl rfl (any_of HT_.out (by kernel_rfl)) (fun _ _ _ h => h) (Or.inl ⟨by rfl, ?_⟩) ?_ ?_
                                      rotate_left
                                      · intro w'
                                        go_simp
                                        with_reducible rfl
                                      rotate_left
                                      · simp only [Act.put, List.setIfInBounds_toArray, List.set_cons_zero, List.set_cons_succ, i64_w, i32_w]
                                        rfl
                                      refine pure_ (i := 1) (N := some 91) (v := ?_) (a' := ?_) #[true, true, false, false, false, false, false, false, false, false, false] rfl rfl (any_of HT_.out (by kernel_rfl)) (fun _ _ _ h => h) (Or.inl ⟨by rfl, ?_⟩) ?_ ?_
                                      rotate_left
                                      · intro w'
                                        go_simp
                                        with_reducible rfl
                                      rotate_left
                                      · simp only [Act.put, List.setIfInBounds_toArray, List.set_cons_zero, List.set_cons_succ, i64_w, i32_w]
                                        rfl
                                      refine pure_ (i := 2) (N := some 92) (v := ?_) (a' := ?_) #[true, true, true, false, false, false, false, false, false, false, false] rfl rfl (any_of HT_.out (by kernel_rfl)) (fun _ _ _ h => h) (Or.inl ⟨by rfl, ?_⟩) ?_ ?_
                                      rotate_left
                                      · intro w'
                                        go_simp
                                        with_reducible rfl
                                      rotate_left
                                      · simp only [Act.put, List.setIfInBounds_toArray, List.set_cons_zero, List.set_cons_succ, i64_w, i32_w]
                                        rfl
                                      refine pure_ (i := 3) (N := some 93) (v := ?_) (a' := ?_) #[true, true, true, true, false, false, false, false, false, false, false] rfl rfl (any_of HT_.out (by kernel_rfl)) (fun _ _ _ h => h) (Or.inl ⟨by rfl, ?_⟩) ?_ ?_
                                      rotate_left
                                      · intro w'
                                        go_simp
                                        with_reducible rfl
                                      rotate_left
                                      · simp only [Act.put, List.setIfInBounds_toArray, List.set_cons_zero, List.set_cons_succ, i64_w, i32_w]
                                        rfl
                                      refine pure_ (i := 5) (N := some 95) (v := ?_) (a' := ?_) #[true, true, true, true, false, true, false, false, false, false, false] rfl rfl (any_of HT_.out (by kernel_rfl)) (fun _ _ _ h => h) (Or.inl ⟨by rfl, ?_⟩) ?_ ?_
                                      rotate_left
                                      · intro w'
                                        go_simp
                                        with_reducible rfl
                                      rotate_left
                                      · simp only [Act.put, List.setIfInBounds_toArray, List.set_cons_zero, List.set_cons_succ, i64_w, i32_w]
                                        rfl
                                      refine pure_ (i := 6) (N := some 96) (v := ?_) (a' := ?_) #[true, true, true, true, false, true, true, false, false, false, false] rfl rfl (any_of HT_.out (by kernel_rfl)) (fun _ _ _ h => h) (Or.inl ⟨by rfl, ?_⟩) ?_ ?_
                                      rotate_left
                                      · intro w'
                                        go_simp
                                        with_reducible rfl
                                      rotate_left
                                      · simp only [Act.put, List.setIfInBounds_toArray, List.set_cons_zero, List.set_cons_succ, i64_w, i32_w]
                                        rfl
                                      refine pure_ (i := 7) (N := some 97) (v := ?_) (a' := ?_) #[true, true, true, true, false, true, true, true, false, false, false] rfl rfl (any_of HT_.out (by kernel_rfl)) (fun _ _ _ h => h) (Or.inl ⟨by rfl, ?_⟩) ?_ ?_
                                      rotate_left
                                      · intro w'
                                        go_simp
                                        with_reducible rfl
                                      rotate_left
                                      · simp only [Act.put, List.setIfInBounds_toArray, List.set_cons_zero, List.set_cons_succ, i64_w, i32_w]
                                        rfl
                                      refine take_ (i := 4) (N := some 94) (v := ?_) (a' := ?_) #[true, true, true, true, true, true, true, true, false, false, false] rfl rfl (take_ofW HT_.out HW_.out (by kernel_rfl)) (fun _ _ _ h => h) (Or.inl ⟨by rfl, ?_⟩) hHeld ?_ ?_
                                      rotate_left
                                      · rintro w' ⟨s0, s1⟩
                                        go_simp
                                        with_reducible rfl
                                      rotate_left
                                      · simp only [Act.put, List.setIfInBounds_toArray, List.set_cons_zero, List.set_cons_succ, i64_w, i32_w]
                                        rfl
                                      refine take_ (i := 8) (N := some 98) (v := ?_) (a' := ?_) #[true, true, true, true, true, true, true, true, true, false, false] rfl rfl (take_ofW HT_.out HW_.out (by kernel_rfl)) (fun _ _ _ h => h) (Or.inl ⟨by rfl, ?_⟩) hHeld ?_ ?_
                                      rotate_left
                                      · rintro w' ⟨s0, s1⟩
                                        go_simp
                                        with_reducible rfl
                                      rotate_left
                                      · simp only [Act.put, List.setIfInBounds_toArray, List.set_cons_zero, List.set_cons_succ, i64_w, i32_w]
                                        rfl
                                      refine one_ (i := 9) (N := some 99) #[true, true, true, true, true, true, true, true, true, true, false] rfl rfl (one_of HT_.out (by kernel_rfl)) (by decide) (fun K hK => ?_)
                                      refine goes_ Try.func14 (by kernel_rfl) rfl #[.int .i64 a0, .slice A201_0 (rd_L1 l1 x12_3).length c201_0, .slice A202_0 (rd_L1 l1 x15_4).length c202_0] (by rfl) rfl rfl (by (try simp only [List.map_toArray, List.map_cons, List.map_nil]); first | done | rfl | (simp only [List.length_drop, List.length_take]; rfl)) ?_
                                      with_reducible refine (vector_Key.calls k4 a0 _ _ (rd_L1 l1 x12_3) _ _ (rd_L1 l1 x15_4) t203 _ ?side1 ?side2 ?side3 ?side4 A43.out).mono ?_
                                      (case side1 => repeat (first | exact (Kd.C_below HR201_0.out HB.out) | (with_reducible refine Kd.C_alloc ?_ _) | (with_reducible refine Kd.C_drewN ?_ _) | (with_reducible refine Kd.C_drew ?_)))
                                      (case side2 => exact HC201_0.out)
                                      (case side3 => repeat (first | exact (Kd.C_below HR202_0.out HB.out) | (with_reducible refine Kd.C_alloc ?_ _) | (with_reducible refine Kd.C_drewN ?_ _) | (with_reducible refine Kd.C_drew ?_)))
                                      (case side4 => exact HC202_0.out)
                                      rintro e w50 ⟨rfl, hb⟩
                                      refine ⟨_, rfl, ?_⟩
                                      have n0_ := Aside0.mk (Kd.S_below (by (with_reducible repeat (first | apply Kd.S_alloc | apply Kd.S_drewN | apply Kd.S_drew)); exact HO_195000.out) hb)
                                      have n1_ := Aside0.mk (blk_below (g := gb194) (o := .cells #[.slice (some ad199) t190.length co18] 25 (0, 0)) (by (with_reducible repeat (first | refine blk_drewN ?_ _ | refine blk_drew ?_ | refine blk_alloc ?_ _)); exact BK194.out) hb)
                                      have n2_ := Aside0.mk (blk_below (g := gb200) (o := .cells #[.int .i64 ((rd_T39 t190 x12_3).f0), .slice A199_1 ((rd_T39 t190 x12_3).f1).length c199_1] 39 (0, 0)) (by (with_reducible repeat (first | refine blk_drewN ?_ _ | refine blk_drew ?_ | refine blk_alloc ?_ _)); exact BK200.out) hb)
                                      have n3_ := Aside0.mk (Kd.C_below (by repeat (first | (with_reducible exact HR199_1.out) | (with_reducible refine Kd.C_alloc ?_ _) | (with_reducible refine Kd.C_drewN ?_ _) | (with_reducible refine Kd.C_drew ?_) | exact HR199_1.out)) hb)
                                      have n4_ := Aside0.mk (below_step (by repeat (first | (with_reducible first | exact HB.out | apply below_alloc | apply pw_below_drewN | apply below_drew1 | refine below_set ?_ GE194.out | refine below_set ?_ GE200.out) | exact HB.out)) hb)
                                      clear HO_195000
                                      clear BK194
                                      clear BK200
                                      clear HR199_1
                                      clear HB
                                      have HO_195000 := n0_
                                      have BK194 := n1_
                                      have BK200 := n2_
                                      have HR199_1 := n3_
                                      have HB := n4_
                                      clear n0_ n1_ n2_ n3_ n4_
                                      (try clear hb)
                                      (try clear hb2)
                                      (try clear hk)
                                      (try clear hi)
                                      refine hK.out _ _ ⟨((HB.out.cell (World.block_lt_of_cell? w _ hw201_0)).trans hw201_0), ((HB.out.cell (World.block_lt_of_cell? w _ hw202_0)).trans hw202_0)⟩ (fun hHeld => ?_)
                                      clear hK K
                                      refine norm_ (a' := ?_) ?_ ?_
                                      rotate_left
                                      · show Act.put _ (some 99) _ = _
                                        simp only [Act.put, List.setIfInBounds_toArray, List.set_cons_zero, List.set_cons_succ, i64_w, i32_w]
                                        rfl
                                      refine pure_ (i := 10) (N := some 16) (v := ?_) (a' := ?_) #[true, true, true, true, true, true, true, true, true, true, true] rfl rfl (any_of HT_.out (by kernel_rfl)) (fun _ _ _ h => h) (Or.inl ⟨by rfl, ?_⟩) ?_ ?_
                                      rotate_left
                                      · intro w'
                                        go_simp
                                        with_reducible rfl
                                      rotate_left
                                      · simp only [Act.put, List.setIfInBounds_toArray, List.set_cons_zero, List.set_cons_succ, i64_w, i32_w]
                                        rfl
                                      refine done_ (done_of HT_.out (by kernel_rfl)) ?_
                                      have hnb51 := NB200_194.out
                                      have hnc51 := NB194_200.out
                                      have hcz52_0 : w50.cell? ⟨gb200, 0, none⟩ = some (.int .i64 ((rd_T39 t190 x12_3).f0)) := (blk_cell BK200.out 0).trans rfl
                                      have hcz52_1 : w50.cell? ⟨gb200, 1, none⟩ = some (.slice A199_1 ((rd_T39 t190 x12_3).f1).length c199_1) := (blk_cell BK200.out 1).trans rfl
                                      have hfz52_0 := blk_frozen BK200.out 0
                                      have hfz52_1 := blk_frozen BK200.out 1
                                      try go_wp2
                                      go_roundg k4
                                      case measure => have := HJ3.out; have := HJ14.out; have := HK3.out; have := HK4.out; omega
                                      case rel => exact ⟨(x14_4), (wrap64 (x15_4 + 1)), (by first | rfl | (simp; done) | (simp [*]; done)), (by first | rfl | (simp; done) | (simp [*]; done)), H', ⟨by have := HJ3.out; have := HJ14.out; have := HK3.out; have := HK4.out; omega⟩, ⟨by (with_reducible repeat (first | apply Kd.S_alloc | apply Kd.S_drewN | apply Kd.S_drew)); exact HO_195000.out⟩, ⟨by (with_reducible repeat (first | refine blk_drewN ?_ _ | refine blk_drew ?_ | refine blk_alloc ?_ _)); exact BK194.out⟩, ⟨by (with_reducible repeat (first | refine blk_drewN ?_ _ | refine blk_drew ?_ | refine blk_alloc ?_ _)); exact BK200.out⟩, ⟨by repeat (first | (with_reducible exact HR199_1.out) | (with_reducible refine Kd.C_alloc ?_ _) | (with_reducible refine Kd.C_drewN ?_ _) | (with_reducible refine Kd.C_drew ?_) | exact HR199_1.out)⟩, ⟨by repeat (first | (with_reducible first | exact HB.out | apply below_alloc | apply pw_below_drewN | apply below_drew1 | refine below_set ?_ GE194.out | refine below_set ?_ GE200.out) | exact HB.out)⟩⟩
                                  · rw [if_neg c42] at H
                                    exact absurd H (by simp)
                                · rw [if_neg c41] at H
                                  exact absurd H (by simp)
                              · rw [if_neg c40] at H
                                exact absurd H (by simp)
                            · rw [if_neg c39] at H
                              have c39b0 : decide (x15_4 < (l1.length : Int)) = false := decide_eq_false c39
                              clear c39
                              obtain ⟨ji53, hji53⟩ : ∃ j_ : Int, (mn (wrap64 (1 + (wrap64 (a2)))) (l1.length : Int)) = j_ := ⟨_, rfl⟩
                              replace H : (if (((rd_T39 t190 x12_3).f1).length : Int) < (ji53) then (some false) else (if x14_4 ≥ (ji53) then (some false) else (antiquarylaw27_GraphBuildIsExact.l0 k4 a0 l1 (wrap64 (1 + (wrap64 (a2)))) (wrap64 (x12_3 + 1)) t190))) = some r := by first | (rw [hji53] at H; exact H) | (simp only [hji53] at H ⊢; exact H)
                              have hji53_ : (if (l1.length : Int) < (wrap64 (1 + (wrap64 (a2)))) then (l1.length : Int) else (wrap64 (1 + (wrap64 (a2))))) = ji53 := hji53
                              by_cases c54 : (((rd_T39 t190 x12_3).f1).length : Int) < (ji53)
                              · rw [if_pos c54] at H
                                have c54b0 : decide ((((rd_T39 t190 x12_3).f1).length : Int) < (ji53)) = true := decide_eq_true c54
                                clear c54
                                obtain rfl := Option.some.inj H
                                have hnb55 := NB200_194.out
                                have hnc55 := NB194_200.out
                                have hcz56_0 : wr.cell? ⟨gb200, 0, none⟩ = some (.int .i64 ((rd_T39 t190 x12_3).f0)) := (blk_cell BK200.out 0).trans rfl
                                have hcz56_1 : wr.cell? ⟨gb200, 1, none⟩ = some (.slice A199_1 ((rd_T39 t190 x12_3).f1).length c199_1) := (blk_cell BK200.out 1).trans rfl
                                have hfz56_0 := blk_frozen BK200.out 0
                                have hfz56_1 := blk_frozen BK200.out 1
                                go_wp2
                                go_ret
                                exact ⟨by first | rfl | (simp [errW_none, errW_some] <;> rfl) | (simp only [← hji53]; first | rfl | (simp [errW_none, errW_some] <;> rfl)) | (simp [*, errW_none, errW_some] <;> rfl), by repeat (first | (with_reducible first | exact HB.out | apply below_alloc | apply pw_below_drewN | apply below_drew1 | refine below_set ?_ GE194.out | refine below_set ?_ GE200.out) | exact HB.out)⟩
                              · rw [if_neg c54] at H
                                have c54b0 : decide ((((rd_T39 t190 x12_3).f1).length : Int) < (ji53)) = false := decide_eq_false c54
                                clear c54
                                by_cases c58 : x14_4 ≥ (ji53)
                                · rw [if_pos c58] at H
                                  have c58b0 : decide ((ji53) ≤ x14_4) = true := decide_eq_true c58
                                  clear c58
                                  obtain rfl := Option.some.inj H
                                  have hnb59 := NB200_194.out
                                  have hnc59 := NB194_200.out
                                  have hcz60_0 : wr.cell? ⟨gb200, 0, none⟩ = some (.int .i64 ((rd_T39 t190 x12_3).f0)) := (blk_cell BK200.out 0).trans rfl
                                  have hcz60_1 : wr.cell? ⟨gb200, 1, none⟩ = some (.slice A199_1 ((rd_T39 t190 x12_3).f1).length c199_1) := (blk_cell BK200.out 1).trans rfl
                                  have hfz60_0 := blk_frozen BK200.out 0
                                  have hfz60_1 := blk_frozen BK200.out 1
                                  go_wp2
                                  go_ret
                                  exact ⟨by first | rfl | (simp [errW_none, errW_some] <;> rfl) | (simp only [← hji53]; first | rfl | (simp [errW_none, errW_some] <;> rfl)) | (simp [*, errW_none, errW_some] <;> rfl), by repeat (first | (with_reducible first | exact HB.out | apply below_alloc | apply pw_below_drewN | apply below_drew1 | refine below_set ?_ GE194.out | refine below_set ?_ GE200.out) | exact HB.out)⟩
                                · rw [if_neg c58] at H
                                  have c58b0 : decide ((ji53) ≤ x14_4) = false := decide_eq_false c58
                                  clear c58
                                  have H' := Aside0.mk H
                                  clear H
                                  have hnb61 := NB200_194.out
                                  have hnc61 := NB194_200.out
                                  have hcz62_0 : wr.cell? ⟨gb200, 0, none⟩ = some (.int .i64 ((rd_T39 t190 x12_3).f0)) := (blk_cell BK200.out 0).trans rfl
                                  have hcz62_1 : wr.cell? ⟨gb200, 1, none⟩ = some (.slice A199_1 ((rd_T39 t190 x12_3).f1).length c199_1) := (blk_cell BK200.out 1).trans rfl
                                  have hfz62_0 := blk_frozen BK200.out 0
                                  have hfz62_1 := blk_frozen BK200.out 1
                                  go_wp2
                                  go_roundg k4
                                  case measure => have := HJ3.out; have := HJ14.out; have := HK3.out; have := HK4.out; omega
                                  case rel => exact ⟨(wrap64 (x12_3 + 1)), (by first | rfl | (simp; done) | (simp [*]; done)), H', ⟨by have := HJ3.out; have := HJ14.out; have := HK3.out; have := HK4.out; omega⟩, ⟨by (with_reducible repeat (first | apply Kd.S_alloc | apply Kd.S_drewN | apply Kd.S_drew)); exact Kd.S_mono HO_195000.out (fun _ hk => trivial)⟩, ⟨by (with_reducible repeat (first | refine blk_drewN ?_ _ | refine blk_drew ?_ | refine blk_alloc ?_ _)); exact BK194.out⟩, ⟨by repeat (first | (with_reducible first | exact HB.out | apply below_alloc | apply pw_below_drewN | apply below_drew1 | refine below_set ?_ GE194.out | refine below_set ?_ GE200.out) | exact HB.out)⟩⟩
                      · rw [if_neg c34] at H
                        exact absurd H (by simp)
                    · rw [if_neg c33] at H
                      exact absurd H (by simp)
                  · rw [if_neg c32] at H
                    have c32b0 : decide (x12_3 < (l1.length : Int)) = false := decide_eq_false c32
                    clear c32
                    replace H := Option.bind_eq_some_iff.mp H
                    obtain ⟨t198, A630, H⟩ := H
                    replace H : (some t198) = some r := H
                    have A63 := Aside0.mk A630
                    clear A630
                    obtain rfl := Option.some.inj H
                    go_wp2_with (first | ((with_reducible refine gate_callee (f := 10) rfl ?_); refine goesL_ (some 122) rfl rfl Try.func10 (by kernel_rfl) rfl #[] rfl (by (try simp only [List.map_toArray, List.map_cons, List.map_nil]); first | done | rfl | (simp only [List.length_drop, List.length_take]; rfl)) ?_; (with_reducible refine (antiquarylaw27_sanity.calls  t198 _ A63.out).mono ?_); rintro e w64 ⟨rfl, hb⟩; refine ⟨_, rfl, ?_⟩; have n0_ := Aside0.mk (Kd.S_below (by (with_reducible repeat (first | apply Kd.S_alloc | apply Kd.S_drewN | apply Kd.S_drew)); exact HO_195000.out) hb); have n1_ := Aside0.mk (blk_below (g := gb194) (o := .cells #[.slice Ao18 t190.length co18] 25 (0, 0)) (by (with_reducible repeat (first | refine blk_drewN ?_ _ | refine blk_drew ?_ | refine blk_alloc ?_ _)); exact BK194.out) hb); have n2_ := Aside0.mk (below_step (by repeat (first | (with_reducible first | exact HB.out | apply below_alloc | apply pw_below_drewN | apply below_drew1 | refine below_set ?_ GE194.out) | exact HB.out)) hb); clear HO_195000; clear BK194; clear HB; have HO_195000 := n0_; have BK194 := n1_; have HB := n2_; clear n0_ n1_ n2_; (try clear hb); (try clear hb2); (try clear hk); (try clear hi)))
                    go_ret
                    exact ⟨by first | rfl | (simp [errW_none, errW_some] <;> rfl) | (simp [*, errW_none, errW_some] <;> rfl), by repeat (first | (with_reducible first | exact HB.out | apply below_alloc | apply pw_below_drewN | apply below_drew1 | refine below_set ?_ GE194.out) | exact HB.out)⟩

end Go.Proofs.Ythbkomkgciemiaa.PKM
/- GraphBuildIsExact in plain terms: true, whatever is given. -/
namespace Go.Proofs.Ythbkomkgciemiaa.PKM
open Go.Proofs.Ythbkomkgciemiaa.RF
open Go.RowKit Go.Proofs.YthbkomkgciemiaaW.PrintWords Go.Proofs.YthbkomkgciemiaaW.PrintLast Go.Proofs.YthbkomkgciemiaaW.PrintMore
attribute [local go_sem] max2_int min2_int max_two min_two max_three min_three max_four min_four
set_option linter.unusedVariables false
set_option linter.unusedSimpArgs false
theorem exact_l1 (m : Int) (hm : 1 ≤ m ∧ m ≤ 3) (l : List (List Int)) (hal : ∀ x ∈ l, ∀ v ∈ l, alikeF x v = true) (hl : l.length ≤ 25) (n : Int) (g : List Hd) (i : Nat) (hi : i < l.length) (rad : Int) (slots : List Int) (hs : mn n l.length ≤ slots.length) (hin : (((keysV m l (rdL l i)).filter fun y => decide (y < rad)).length : Int) < mn n l.length)
    (k0 : Nat) (h0 : antiquarylaw27_GraphBuildIsExact.l0 k0 m l n ((i : Int) + 1) g = some true) (d : Nat) : ∀ p : Nat, p + d = l.length →
    ∃ k, antiquarylaw27_GraphBuildIsExact.l1 k m l n i ((((keysV m l (rdL l i)).take p).filter fun y => decide (y < rad)).length : Nat) p g rad slots = some true := by
  have hkl := keysV_length m l (rdL l i)
  induction d with
  | zero =>
    intro p hp
    refine ⟨k0 + 1, ?_⟩
    rw [List.take_of_length_le (by omega)]
    unfold antiquarylaw27_GraphBuildIsExact.l1
    rw [if_neg (by omega), if_neg (by omega), if_neg (by omega), w64 (by omega)]
    exact h0
  | succ d ih =>
    intro p hp
    obtain ⟨k, h1⟩ := ih (p + 1) (by omega)
    have hkey := key_f m hm (rdL l i) (rdL l p) (hal _ (rdL_mem (by omega) (by omega)) _ (rdL_mem (by omega) (by omega))) (k + 40) (by omega)
    have he : keyV m (rdL l i) (rdL l p) = rd (keysV m l (rdL l i)) p := by rw [rd_keysV m l (rdL l i) p (by omega) (by omega), keyV_comm]
    have hcl : (((keysV m l (rdL l i)).take p).filter fun y => decide (y < rad)).length ≤ p := Nat.le_trans (List.length_filter_le _ _) (by simp; omega)
    rw [take_succ_rd _ p (by omega), List.filter_append, List.length_append] at h1
    refine ⟨k + 40 + 1, ?_⟩
    unfold antiquarylaw27_GraphBuildIsExact.l1
    rw [if_pos (by omega), if_pos (by omega), if_pos (by omega), if_pos (by omega), rd_L1_eq, rd_L1_eq, hkey, Option.bind_some, he]
    by_cases c : rd (keysV m l (rdL l i)) p < rad
    · rw [if_pos c, w64 (by omega), w64 (by omega)]
      rw [show ([rd (keysV m l (rdL l i)) ↑p].filter fun y => decide (y < rad)).length = 1 by simp [c]] at h1
      exact up_le (f := fun k => antiquarylaw27_GraphBuildIsExact.l1 k m l n i (((((keysV m l (rdL l i)).take p).filter fun y => decide (y < rad)).length : Nat) + 1) ((p : Int) + 1) g rad slots) (fun k => (antiquarylaw27_GraphBuildIsExact.mono_l k).2.2.2 _ _ _ _ _ _ _ _ _) h1 (by omega)
    · rw [if_neg c, w64 (by omega)]
      rw [show ([rd (keysV m l (rdL l i)) ↑p].filter fun y => decide (y < rad)).length = 0 by simp [c]] at h1
      exact up_le (f := fun k => antiquarylaw27_GraphBuildIsExact.l1 k m l n i ((((keysV m l (rdL l i)).take p).filter fun y => decide (y < rad)).length : Nat) ((p : Int) + 1) g rad slots) (fun k => (antiquarylaw27_GraphBuildIsExact.mono_l k).2.2.2 _ _ _ _ _ _ _ _ _) h1 (by omega)
theorem exact_l0 (m : Int) (hm : 1 ≤ m ∧ m ≤ 3) (l : List (List Int)) (hal : ∀ x ∈ l, ∀ v ∈ l, alikeF x v = true) (hl : l.length ≤ 25) (hl1 : 1 ≤ l.length) (n : Int) (hn : 1 ≤ n) (d : Nat) : ∀ i : Nat, i + d = l.length →
    ∃ k, antiquarylaw27_GraphBuildIsExact.l0 k m l n i (hoodsV m l n l.length) = some true := by
  have hgl := hoods_len m l n
  induction d with
  | zero =>
    intro i hi
    refine ⟨1, ?_⟩
    unfold antiquarylaw27_GraphBuildIsExact.l0
    rw [if_neg (by omega)]; rfl
  | succ d ih =>
    intro i hi
    obtain ⟨k0, h0⟩ := ih (i + 1) (by omega)
    have hmn := mn_in hn hl1
    have hkl := keysV_length m l (rdL l i)
    have e := hoods_at m l n i (by omega)
    have hj : (mn n l.length - 1).toNat < (keysV m l (rdL l i)).length := by omega
    have ej : ((mn n l.length - 1).toNat : Int) = mn n l.length - 1 := by omega
    obtain ⟨c1, c2, _⟩ := kth_cnt (keysV m l (rdL l i)) (mn n l.length - 1).toNat hj
    rw [ej] at c1 c2
    have hen := (enough (keysV m l (rdL l i)) (mn n l.length - 1).toNat hj (rd (sortI (keysV m l (rdL l i))) (mn n l.length - 1))).2 (by rw [ej]; omega)
    obtain ⟨k, h⟩ := exact_l1 m hm l hal hl n (hoodsV m l n l.length) i (by omega) (rd_T39 (hoodsV m l n l.length) i).f0 (rd_T39 (hoodsV m l n l.length) i).f1 (by rw [e]; show _ ≤ ((aroundV _ _).length : Int); omega) (by rw [e]; show (((keysV m l (rdL l i)).filter fun y => decide (y < rd (sortI (keysV m l (rdL l i))) (mn n l.length - 1))).length : Int) < _; omega) k0 h0 l.length 0 (by omega)
    refine ⟨k + 1, ?_⟩
    unfold antiquarylaw27_GraphBuildIsExact.l0
    rw [if_pos (by omega), if_pos (by omega), if_pos (by omega)]
    exact h
theorem buildIsExact_pure (m : Int) (l : List (List Int)) (a2 : Int) (h0 : 0 ≤ a2) (h1 : a2 ≤ 255) : ∃ k, antiquarylaw27_GraphBuildIsExact.f k m l a2 = some true := by
  obtain ⟨k1, r1, f1, f2⟩ := few09_ex l
  cases r1 with
  | false =>
    refine ⟨k1 + 1, ?_⟩
    unfold antiquarylaw27_GraphBuildIsExact.f
    rw [up_le (antiquaryref09_Few.mono _ _) f1 (show k1 ≤ k1 + 1 by omega), Option.bind_some, if_neg (by simp)]
    rfl
  | true =>
    have hfew := f2 rfl
    by_cases c : 1 ≤ m ∧ m ≤ 3
    · obtain ⟨k2, r2, g1, g2⟩ := fit_ex l hfew
      cases r2 with
      | false =>
        refine ⟨k1 + k2 + 1, ?_⟩
        unfold antiquarylaw27_GraphBuildIsExact.f
        rw [up_le (antiquaryref09_Few.mono _ _) f1 (show k1 ≤ k1 + k2 + 1 by omega), Option.bind_some, if_pos rfl, metric09, Option.bind_some, decide_eq_true c, if_pos rfl, up_le (antiquaryref09_Fit.mono _) g1 (show k2 ≤ k1 + k2 + 1 by omega), Option.bind_some]
        rfl
      | true =>
        have hr : rightF m l = true := right_iff_fit.2 ⟨c, g2.1 rfl⟩
        obtain ⟨_, ⟨hl1, hl2⟩, hall⟩ := rightF_iff.1 hr
        have hal : ∀ x ∈ l, ∀ v ∈ l, alikeF x v = true := fun x hx v hv => alike_trans (hall x hx) (hall v hv)
        have hv := hoods_valid m l (1 + a2) hr (by omega)
        have hs : ∀ h ∈ hoodsV m l (1 + a2) l.length, h.f1.length ≤ 4096 := fun h hh => Nat.le_trans (hoods_few m l (1 + a2) hl2 h hh) hl2
        obtain ⟨k3, r3, c1, c2⟩ := check_ex m l (hoodsV m l (1 + a2) l.length) hr hv hs
        obtain rfl := c2.2 fun j hj => hoods_exact m l (1 + a2) j hj
        obtain ⟨k4, v1⟩ := validAt_up (fun h hh => Nat.le_trans (hs h hh) (by omega)) hv
        obtain ⟨k5, e1⟩ := exact_l0 m c l hal hfew.1 hl1 (1 + a2) (by omega) l.length 0 (by omega)
        refine ⟨k1 + k2 + k3 + k4 + k5 + 2, ?_⟩
        have ew : wrap64 (1 + wrap64 a2) = 1 + a2 := by rw [w64 (i := a2) (by omega), w64 (by omega)]
        unfold antiquarylaw27_GraphBuildIsExact.f
        rw [up_le (antiquaryref09_Few.mono _ _) f1 (show k1 ≤ k1 + k2 + k3 + k4 + k5 + 2 by omega), Option.bind_some, if_pos rfl, metric09, Option.bind_some, decide_eq_true c, if_pos rfl, up_le (antiquaryref09_Fit.mono _) g1 (show k2 ≤ k1 + k2 + k3 + k4 + k5 + 2 by omega), Option.bind_some]
        rw [antiquarylaw27_GraphBuildIsExact.j0, if_neg (by simp), ew, build_ok m l (1 + a2) hr (by omega) (by omega), Option.bind_some, c1 (k1 + k2 + k3 + k4 + k5 + 1) (by omega), Option.bind_some, if_pos rfl, if_pos rfl, if_pos rfl, v1 (k1 + k2 + k3 + k4 + k5 + 1) (by omega), Option.bind_some, if_pos rfl]
        rw [antiquarylaw27_GraphBuildIsExact.j1, hoods_len, if_neg (by simp)]
        exact up_le (f := fun k => antiquarylaw27_GraphBuildIsExact.l0 k m l (1 + a2) 0 (hoodsV m l (1 + a2) l.length)) (fun k => (antiquarylaw27_GraphBuildIsExact.mono_l k).2.2.1 _ _ _ _ _) e1 (by omega)
    · refine ⟨k1 + 1, ?_⟩
      unfold antiquarylaw27_GraphBuildIsExact.f
      rw [up_le (antiquaryref09_Few.mono _ _) f1 (show k1 ≤ k1 + 1 by omega), Option.bind_some, if_pos rfl, metric09, Option.bind_some, decide_eq_false c, if_neg (by simp)]
      rfl
end Go.Proofs.Ythbkomkgciemiaa.PKM
namespace Go.Proofs.Ythbkomkgciemiaa.graphBuildIsExact
open Go.ChangeShapes Go.WideShapes Go.ChangeAt Go.RowKit
open Go.Proofs.Ythbkomkgciemiaa.PKM (open_rows buildIsExact_pure)
set_option linter.unusedVariables false
theorem own : ownKnob Try.prog.godebug = none := by kernel_rfl
theorem laidOut : laidOutB Try.prog = true := by kernel_rfl
set_option maxHeartbeats 400000 in
set_option maxRecDepth 100000 in
theorem lifted (os : Os) (started : os.Started) (H : Type) (enc : TypeId × Value → H) :
    ReturnsInHanded {} Try.checked os 4 .any (Rows.graphBuildIsExactSpec.pre6 enc Try.prog Try.f4 Rows.graphBuildIsExactRow.domain false) (Rows.graphBuildIsExactSpec.post enc Try.prog Try.f4 false true false false) := by
  refine returnsInHanded_of_change_sized (C := Try.checked) own started (by kernel_rfl) Try.func4
    (ChangeSpec.witness6 (enc := enc) (C := Try.checked) false ⟨#[], #[.int .i64 0, .slice none 0 0, .int .u8 0], []⟩ 8 (by kernel_rfl) (by kernel_rfl) (by kernel_rfl) (by kernel_rfl)) ?_
  intro W base args ds gs before hval0 hW hcnd hsz0 _
  have hval : ∀ (j : Nat) t v, Try.f4.params[j]? = some t → args[j]? = some v → Value.okWide Try.prog W .any base t v := hval0
  have hW' := hW
  obtain ⟨p, q, hA0, hV, rfl, hfz, hnd⟩ := hW
  have hA : DataW.TrodAll enc Try.prog W 0 (fun _ => true) true Try.f4.params.toList args.toList ds p := hA0
  rw [Try.params4] at hA hval
  obtain ⟨v0, vs0, d0, ds0, p0, q0, hargs, rfl, rfl, h0, r0⟩ := trodAll_cons hA
  obtain ⟨v1, vs1, d1, ds1, p1, q1, rfl, rfl, rfl, h1, r1⟩ := trodAll_cons r0
  obtain ⟨v2, vs2, d2, ds2, p2, q2, rfl, rfl, rfl, h2, r2⟩ := trodAll_cons r1
  obtain ⟨rfl, rfl, rfl⟩ := trodAll_nil r2
  obtain rfl : args = #[v0, v1, v2] := by cases args; simp_all
  obtain ⟨rfl, rfl⟩ := trodVars_none hV
  obtain ⟨a0, rfl, rfl, rfl, w0⟩ := open_int Try.underlying3 (hval 0 3 v0 rfl rfl) h0
  obtain ⟨a1, len1, cap1, rfl⟩ := okWide_slice Try.underlying22 (hval 1 22 v1 rfl rfl)
  have k1 := h1
  have lt1 : ∀ x ∈ p1, x.block < W.heap.size := by obtain ⟨m, hm⟩ := k1; exact DataW.trod_lt m _ _ _ hm
  obtain ⟨a2, rfl, rfl, rfl, w2⟩ := open_int Try.underlying5 (hval 2 5 v2 rfl rfl) h2
  obtain ⟨fu1, hf1⟩ := h1
  obtain ⟨l, A1, c1, hc1, hl1, hC1⟩ := open_rows hf1
  simp [Value.cells] at hc1
  obtain ⟨rfl, rfl, rfl⟩ := hc1
  clear hA0 hval0 hsz0 hA r0 r1 r2
  have hu8 : 0 ≤ a2 ∧ a2 ≤ 255 := bounds_u8 w2
  obtain ⟨k, hk⟩ := buildIsExact_pure a0 l a2 hu8.1 hu8.2
  refine (Go.Proofs.Ythbkomkgciemiaa.PKM.antiquarylaw27_GraphBuildIsExact.calls k a0 _ _ l a2 true W hC1 hl1 hk).mono fun e W' ⟨he, bel⟩ => ?_
  subst he
  exact ⟨_, rfl, _, _, _, [], _, [], hW', trodAll_mk1 (shut_bool Try.underlying4 _), (trodAll_cons_mk (shut_int Try.underlying3 w0) (trodAll_cons_mk (Below.trod laidOut (by kernel_rfl) (of_decide_eq_true (by kernel_rfl)) k1 bel lt1) (trodAll_cons_mk (shut_int Try.underlying5 w2) trodAll_mk0))), rfl, bel.frame _, fun h => by cases h⟩
theorem over : Rows.graphBuildIsExactRow.holds Try.pinned (OpenSpec.ofChange Rows.graphBuildIsExactSpec) :=
  OpenClaim.holds_of_wide 4 Try.f4 rfl rfl rfl rfl rfl rfl rfl ⟨rfl, rfl, rfl, rfl, rfl⟩ rfl rfl rfl rfl rfl (by kernel_rfl) Try.func4 (by kernel_rfl)
    (of_decide_eq_true (by kernel_rfl)) (by unfold Func.isWrapper; first | (rw [if_pos (by decide +kernel)]; kernel_rfl) | (rw [if_neg (by decide +kernel)]; exact ⟨rfl, rfl⟩))
    (fun os started H enc _ => lifted os started H enc)
theorem proved : Rows.GraphBuildIsExactSaid := over
#print axioms proved
end Go.Proofs.Ythbkomkgciemiaa.graphBuildIsExact
namespace Go.Proofs.Ythbkomkgciemiaa
/-- The row, under a short name, for the claim. -/
theorem graphBuildIsExact_holds : Rows.GraphBuildIsExactSaid := graphBuildIsExact.proved
end Go.Proofs.Ythbkomkgciemiaa
