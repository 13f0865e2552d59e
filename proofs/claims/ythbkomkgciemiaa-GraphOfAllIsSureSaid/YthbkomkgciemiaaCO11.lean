/- Texts of this claim, merged: part 11. -/
import Derived.Test.YthbkomkgciemiaaCO3
import Derived.Test.YthbkomkgciemiaaCO5
import Derived.Test.YthbkomkgciemiaaCO6
import Derived.Test.YthbkomkgciemiaaCO7
import Derived.Test.YthbkomkgciemiaaCO8
import Derived.Test.YthbkomkgciemiaaCO10
-- by hp.py over the kit's print (stubs proved by hand)
namespace Go.Proofs.Ythbkomkgciemiaa.PKM
open Go.RowKit Go.Proofs.YthbkomkgciemiaaW.PrintWords Go.Proofs.YthbkomkgciemiaaW.PrintLast Go.Proofs.YthbkomkgciemiaaW.PrintMore
attribute [local go_sem] max2_int min2_int max_two min_two max_three min_three max_four min_four   -- for this text's walks alone
set_option linter.unusedVariables false
set_option linter.unusedSimpArgs false

-- STAGE 4 antiquarylaw27_GraphOfAllIsSure
/-! ### antiquarylaw27_GraphOfAllIsSure: function 5 -/
mutual
def antiquarylaw27_GraphOfAllIsSure.j0 : Nat → Int → List (List Int) → List Int → Int → Int → Int → Bool → Option (Bool)
  | 0, _, _, _, _, _, _, _ => none
  | k + 1, x0, x1, x2, x3, x4, x5, x58 => if x58 = true then ((antiquarylaw27_sanity.f).bind fun t249 => (some t249)) else (if (x1.length : Int) = 0 then (none) else ((graph_Build.f x0 x1 (x1.length : Int)).bind fun bt250 => ((graph_Walk.f x0 x1 bt250.1 x2 (Int.tmod (wrap64 (x3)) (x1.length : Int))).bind fun bt255 => ((graph_Nearest.f x0 x1 bt250.1 x2 (Int.tmod (wrap64 (x3)) (x1.length : Int)) (wrap64 (1 + (Int.tmod (wrap64 (x5)) 64)))).bind fun bt259 => (if bt250.2 = 0 then (if bt255.2 = 0 then (if bt259.2.2.2 = 0 then (if (bt255.1.length : Int) > 2 then (antiquarylaw27_GraphOfAllIsSure.j1 k x0 x1 x2 x4 (Int.tmod (wrap64 (x3)) (x1.length : Int)) true bt250.1) else (antiquarylaw27_GraphOfAllIsSure.j1 k x0 x1 x2 x4 (Int.tmod (wrap64 (x3)) (x1.length : Int)) (!bt259.2.2.1) bt250.1)) else (antiquarylaw27_GraphOfAllIsSure.j1 k x0 x1 x2 x4 (Int.tmod (wrap64 (x3)) (x1.length : Int)) true bt250.1)) else (antiquarylaw27_GraphOfAllIsSure.j1 k x0 x1 x2 x4 (Int.tmod (wrap64 (x3)) (x1.length : Int)) true bt250.1)) else (antiquarylaw27_GraphOfAllIsSure.j1 k x0 x1 x2 x4 (Int.tmod (wrap64 (x3)) (x1.length : Int)) true bt250.1))))))
def antiquarylaw27_GraphOfAllIsSure.j1 : Nat → Int → List (List Int) → List Int → Int → Int → Bool → List (S39) → Option (Bool)
  | 0, _, _, _, _, _, _, _ => none
  | k + 1, x0, x1, x2, x4, x13, x115, x255000 => if x115 = true then (some false) else (antiquarylaw27_GraphOfAllIsSure.l0 k x0 x1 x2 x4 x13 0 x255000 ([] : List (S39)))
def antiquarylaw27_GraphOfAllIsSure.l0 : Nat → Int → List (List Int) → List Int → Int → Int → Int → List (S39) → List (S39) → Option (Bool)
  | 0, _, _, _, _, _, _, _, _ => none
  | k + 1, x0, x1, x2, x4, x13, x23, x255000, x266000 => if x23 < (x255000.length : Int) then (if 0 ≤ x23 then (if x266000.length < 4398046511104 then (antiquarylaw27_GraphOfAllIsSure.l0 k x0 x1 x2 x4 x13 (wrap64 (x23 + 1)) x255000 (x266000 ++ [(⟨134217728, (rd_T39 x255000 x23).f1⟩ : S39)])) else (none)) else (none)) else ((graph_Check.f k x0 x1 x266000).bind fun bt270 => ((graph_Within.f x0 x1 x266000 x2 x13 x4).bind fun bt272 => ((antiquarylaw27_sanity.f).bind fun t278 => (if t278 = true then (if bt270.2 = 0 then (if bt270.1 = (-1) then (if bt272.2.2.2 = 0 then (some bt272.2.2.1) else (some false)) else (some false)) else (some false)) else (some false)))))
end
def antiquarylaw27_GraphOfAllIsSure.f (k : Nat) (a0 : Int) (l1 : List (List Int)) (l2 : List Int) (a3 : Int) (a4 : Int) (a5 : Int) : Option (Bool) := (antiquaryref09_Few.f k l1 25).bind fun t244 => (if t244 = true then ((antiquaryref09_Metric.f a0).bind fun t245 => (if t245 = true then ((antiquaryref09_Fit.f k l1).bind fun t246 => (if t246 = true then (if 0 < (l1.length : Int) then ((antiquaryref04_Alike.f k (rd_L1 l1 0) l2).bind fun t248 => (if t248 = true then (if a4 < 0 then (antiquarylaw27_GraphOfAllIsSure.j0 k a0 l1 l2 a3 a4 a5 true) else (antiquarylaw27_GraphOfAllIsSure.j0 k a0 l1 l2 a3 a4 a5 (decide (a4 > 134217728)))) else (antiquarylaw27_GraphOfAllIsSure.j0 k a0 l1 l2 a3 a4 a5 true))) else (none)) else (antiquarylaw27_GraphOfAllIsSure.j0 k a0 l1 l2 a3 a4 a5 true))) else (antiquarylaw27_GraphOfAllIsSure.j0 k a0 l1 l2 a3 a4 a5 true))) else (antiquarylaw27_GraphOfAllIsSure.j0 k a0 l1 l2 a3 a4 a5 true))
theorem antiquarylaw27_GraphOfAllIsSure.mono_l : ∀ k, (∀ y0 y1 y2 y3 y4 y5 y6, LeO (antiquarylaw27_GraphOfAllIsSure.j0 k y0 y1 y2 y3 y4 y5 y6) (antiquarylaw27_GraphOfAllIsSure.j0 (k + 1) y0 y1 y2 y3 y4 y5 y6)) ∧ (∀ y0 y1 y2 y3 y4 y5 y6, LeO (antiquarylaw27_GraphOfAllIsSure.j1 k y0 y1 y2 y3 y4 y5 y6) (antiquarylaw27_GraphOfAllIsSure.j1 (k + 1) y0 y1 y2 y3 y4 y5 y6)) ∧ (∀ y0 y1 y2 y3 y4 y5 y6 y7, LeO (antiquarylaw27_GraphOfAllIsSure.l0 k y0 y1 y2 y3 y4 y5 y6 y7) (antiquarylaw27_GraphOfAllIsSure.l0 (k + 1) y0 y1 y2 y3 y4 y5 y6 y7))
  | 0 => ⟨fun _ _ _ _ _ _ _ r h => by simp [antiquarylaw27_GraphOfAllIsSure.j0] at h, fun _ _ _ _ _ _ _ r h => by simp [antiquarylaw27_GraphOfAllIsSure.j1] at h, fun _ _ _ _ _ _ _ _ r h => by simp [antiquarylaw27_GraphOfAllIsSure.l0] at h⟩
  | k + 1 => by
    obtain ⟨ih0, ih1, ih2⟩ := antiquarylaw27_GraphOfAllIsSure.mono_l k
    refine ⟨?_, ?_, ?_⟩
    · intro y0 y1 y2 y3 y4 y5 y6
      unfold antiquarylaw27_GraphOfAllIsSure.j0
      repeat' first
      | (with_reducible exact ih0 _ _ _ _ _ _ _)
      | (with_reducible exact ih1 _ _ _ _ _ _ _)
      | (with_reducible exact ih2 _ _ _ _ _ _ _ _)
      | (with_reducible exact antiquaryref04_Alike.mono _ _ _)
      | (with_reducible exact antiquaryref09_Few.mono _ _ _)
      | (with_reducible exact antiquaryref09_Fit.mono _ _)
      | (with_reducible exact graph_Check.mono _ _ _ _)
      | (with_reducible exact LeO.refl _)
      | (with_reducible exact LeO.none _)
      | (with_reducible refine LeO.ite ?_ ?_)
      | (with_reducible refine LeO.bind ?_ (fun _ => ?_))
      | exact ih0 _ _ _ _ _ _ _
      | exact ih1 _ _ _ _ _ _ _
      | exact ih2 _ _ _ _ _ _ _ _
      | exact antiquaryref04_Alike.mono _ _ _
      | exact antiquaryref09_Few.mono _ _ _
      | exact antiquaryref09_Fit.mono _ _
      | exact graph_Check.mono _ _ _ _
      | exact LeO.none _
      | refine LeO.ite ?_ ?_
      | refine LeO.bind ?_ (fun _ => ?_)
    · intro y0 y1 y2 y3 y4 y5 y6
      unfold antiquarylaw27_GraphOfAllIsSure.j1
      repeat' first
      | (with_reducible exact ih0 _ _ _ _ _ _ _)
      | (with_reducible exact ih1 _ _ _ _ _ _ _)
      | (with_reducible exact ih2 _ _ _ _ _ _ _ _)
      | (with_reducible exact antiquaryref04_Alike.mono _ _ _)
      | (with_reducible exact antiquaryref09_Few.mono _ _ _)
      | (with_reducible exact antiquaryref09_Fit.mono _ _)
      | (with_reducible exact graph_Check.mono _ _ _ _)
      | (with_reducible exact LeO.refl _)
      | (with_reducible exact LeO.none _)
      | (with_reducible refine LeO.ite ?_ ?_)
      | (with_reducible refine LeO.bind ?_ (fun _ => ?_))
      | exact ih0 _ _ _ _ _ _ _
      | exact ih1 _ _ _ _ _ _ _
      | exact ih2 _ _ _ _ _ _ _ _
      | exact antiquaryref04_Alike.mono _ _ _
      | exact antiquaryref09_Few.mono _ _ _
      | exact antiquaryref09_Fit.mono _ _
      | exact graph_Check.mono _ _ _ _
      | exact LeO.none _
      | refine LeO.ite ?_ ?_
      | refine LeO.bind ?_ (fun _ => ?_)
    · intro y0 y1 y2 y3 y4 y5 y6 y7
      unfold antiquarylaw27_GraphOfAllIsSure.l0
      repeat' first
      | (with_reducible exact ih0 _ _ _ _ _ _ _)
      | (with_reducible exact ih1 _ _ _ _ _ _ _)
      | (with_reducible exact ih2 _ _ _ _ _ _ _ _)
      | (with_reducible exact antiquaryref04_Alike.mono _ _ _)
      | (with_reducible exact antiquaryref09_Few.mono _ _ _)
      | (with_reducible exact antiquaryref09_Fit.mono _ _)
      | (with_reducible exact graph_Check.mono _ _ _ _)
      | (with_reducible exact LeO.refl _)
      | (with_reducible exact LeO.none _)
      | (with_reducible refine LeO.ite ?_ ?_)
      | (with_reducible refine LeO.bind ?_ (fun _ => ?_))
      | exact ih0 _ _ _ _ _ _ _
      | exact ih1 _ _ _ _ _ _ _
      | exact ih2 _ _ _ _ _ _ _ _
      | exact antiquaryref04_Alike.mono _ _ _
      | exact antiquaryref09_Few.mono _ _ _
      | exact antiquaryref09_Fit.mono _ _
      | exact graph_Check.mono _ _ _ _
      | exact LeO.none _
      | refine LeO.ite ?_ ?_
      | refine LeO.bind ?_ (fun _ => ?_)
theorem antiquarylaw27_GraphOfAllIsSure.mono : ∀ a0 a1 a2 a3 a4 a5 k, LeO (antiquarylaw27_GraphOfAllIsSure.f k a0 a1 a2 a3 a4 a5) (antiquarylaw27_GraphOfAllIsSure.f (k + 1) a0 a1 a2 a3 a4 a5) := by
  intro a0 a1 a2 a3 a4 a5 k
  obtain ⟨ih0, ih1, ih2⟩ := antiquarylaw27_GraphOfAllIsSure.mono_l k
  unfold antiquarylaw27_GraphOfAllIsSure.f
  repeat' first
      | (with_reducible exact ih0 _ _ _ _ _ _ _)
      | (with_reducible exact ih1 _ _ _ _ _ _ _)
      | (with_reducible exact ih2 _ _ _ _ _ _ _ _)
      | (with_reducible exact antiquaryref04_Alike.mono _ _ _)
      | (with_reducible exact antiquaryref09_Few.mono _ _ _)
      | (with_reducible exact antiquaryref09_Fit.mono _ _)
      | (with_reducible exact graph_Check.mono _ _ _ _)
      | (with_reducible exact LeO.refl _)
      | (with_reducible exact LeO.none _)
      | (with_reducible refine LeO.ite ?_ ?_)
      | (with_reducible refine LeO.bind ?_ (fun _ => ?_))
      | exact ih0 _ _ _ _ _ _ _
      | exact ih1 _ _ _ _ _ _ _
      | exact ih2 _ _ _ _ _ _ _ _
      | exact antiquaryref04_Alike.mono _ _ _
      | exact antiquaryref09_Few.mono _ _ _
      | exact antiquaryref09_Fit.mono _ _
      | exact graph_Check.mono _ _ _ _
      | exact LeO.none _
      | refine LeO.ite ?_ ?_
      | refine LeO.bind ?_ (fun _ => ?_)
def antiquarylaw27_GraphOfAllIsSure.T13 : Bool × List (List Nat × List Nat) := (true, [([], []), ([0], [0]), ([], []), ([2], [2]), ([], []), ([3, 4], [3, 4]), ([5], [5]), ([6], [6]), ([7], [7]), ([8], [8]), ([1, 9], [1, 9]), ([0, 1, 2, 3, 4, 5, 6, 7, 8, 9, 10], []), ([11, 10, 10, 0, 1, 2, 3, 4, 5, 6, 7, 8, 9, 10], [10, 11])])
def antiquarylaw27_GraphOfAllIsSure.B13 : List Nat := [0, 1, 0, 4, 0, 28, 60, 124, 252, 508, 1023, 2047, 4095]
theorem antiquarylaw27_GraphOfAllIsSure.tab13 : rtab .any (opsOf Try.f5 13) = antiquarylaw27_GraphOfAllIsSure.T13 := by kernel_rfl
theorem antiquarylaw27_GraphOfAllIsSure.bits13 : waitsOk antiquarylaw27_GraphOfAllIsSure.T13.2 antiquarylaw27_GraphOfAllIsSure.B13 = true := by kernel_rfl
set_option maxHeartbeats 8000000 in
set_option maxRecDepth 100000 in
theorem antiquarylaw27_GraphOfAllIsSure.calls (k : Nat) (a0 : Int) (A1 : Option Addr) (c1 : Nat) (l1 : List (List Int)) (A2 : Option Addr) (c2 : Nat) (l2 : List Int) (a3 : Int) (a4 : Int) (a5 : Int) (r : Bool) (w : World) (hr1 : Kd.C (Kd.slice 3 (Kd.int .i64)) w A1 l1.length l1) (hc1 : l1.length ≤ c1) (hr2 : Kd.C (Kd.int .i64) w A2 l2.length l2) (hc2 : l2.length ≤ c2) (h : antiquarylaw27_GraphOfAllIsSure.f k a0 l1 l2 a3 a4 a5 = some r) :
    Calls Try.prog 5 #[.int .i64 a0, .slice A1 l1.length c1, .slice A2 l2.length c2, .int .u8 a3, .int .i64 a4, .int .u8 a5] w fun e w' => e = .returned (.bool r) ∧ Below w.heap.size w w' := by
  have hu25 := Try.underlying25
  have hu39 := Try.underlying39
  have HR1 := Aside0.mk hr1
  have HC1 := Aside0.mk hc1
  clear hr1 hc1
  have HR2 := Aside0.mk hr2
  have HC2 := Aside0.mk hc2
  clear hr2 hc2
  have HB := Aside0.mk (Below.refl w.heap.size w)
  have H : ((antiquaryref09_Few.f k l1 25).bind fun t244 => (if t244 = true then ((antiquaryref09_Metric.f a0).bind fun t245 => (if t245 = true then ((antiquaryref09_Fit.f k l1).bind fun t246 => (if t246 = true then (if 0 < (l1.length : Int) then ((antiquaryref04_Alike.f k (rd_L1 l1 0) l2).bind fun t248 => (if t248 = true then (if a4 < 0 then (antiquarylaw27_GraphOfAllIsSure.j0 k a0 l1 l2 a3 a4 a5 true) else (antiquarylaw27_GraphOfAllIsSure.j0 k a0 l1 l2 a3 a4 a5 (decide (a4 > 134217728)))) else (antiquarylaw27_GraphOfAllIsSure.j0 k a0 l1 l2 a3 a4 a5 true))) else (none)) else (antiquarylaw27_GraphOfAllIsSure.j0 k a0 l1 l2 a3 a4 a5 true))) else (antiquarylaw27_GraphOfAllIsSure.j0 k a0 l1 l2 a3 a4 a5 true))) else (antiquarylaw27_GraphOfAllIsSure.j0 k a0 l1 l2 a3 a4 a5 true))) = some r := h
  clear h
  have HC7 := Aside0.mk H
  clear H
  go_enter Try.func5, Try.ntmps5
  go_upto_region 1 with (fail)
  go_cut [58] (fun v58 wc => ∃ (kq : Nat) (x58_6 : Bool), v58 = .bool x58_6 ∧ Aside0 (antiquarylaw27_GraphOfAllIsSure.j0 kq a0 l1 l2 a3 a4 a5 x58_6 = some r) ∧ Aside0 (kq ≤ k) ∧ Aside0 (Below w.heap.size w wc))
  case first =>
    have H := HC7.out
    clear HC7
    replace H := Option.bind_eq_some_iff.mp H
    obtain ⟨t244, A80, H⟩ := H
    replace H : (if t244 = true then ((antiquaryref09_Metric.f a0).bind fun t245 => (if t245 = true then ((antiquaryref09_Fit.f k l1).bind fun t246 => (if t246 = true then (if 0 < (l1.length : Int) then ((antiquaryref04_Alike.f k (rd_L1 l1 0) l2).bind fun t248 => (if t248 = true then (if a4 < 0 then (antiquarylaw27_GraphOfAllIsSure.j0 k a0 l1 l2 a3 a4 a5 true) else (antiquarylaw27_GraphOfAllIsSure.j0 k a0 l1 l2 a3 a4 a5 (decide (a4 > 134217728)))) else (antiquarylaw27_GraphOfAllIsSure.j0 k a0 l1 l2 a3 a4 a5 true))) else (none)) else (antiquarylaw27_GraphOfAllIsSure.j0 k a0 l1 l2 a3 a4 a5 true))) else (antiquarylaw27_GraphOfAllIsSure.j0 k a0 l1 l2 a3 a4 a5 true))) else (antiquarylaw27_GraphOfAllIsSure.j0 k a0 l1 l2 a3 a4 a5 true)) = some r := H
    have A8 := Aside0.mk A80
    clear A80
    by_cases c9 : t244 = true
    · subst c9
      have H1 : ((antiquaryref09_Metric.f a0).bind fun t245 => (if t245 = true then ((antiquaryref09_Fit.f k l1).bind fun t246 => (if t246 = true then (if 0 < (l1.length : Int) then ((antiquaryref04_Alike.f k (rd_L1 l1 0) l2).bind fun t248 => (if t248 = true then (if a4 < 0 then (antiquarylaw27_GraphOfAllIsSure.j0 k a0 l1 l2 a3 a4 a5 true) else (antiquarylaw27_GraphOfAllIsSure.j0 k a0 l1 l2 a3 a4 a5 (decide (a4 > 134217728)))) else (antiquarylaw27_GraphOfAllIsSure.j0 k a0 l1 l2 a3 a4 a5 true))) else (none)) else (antiquarylaw27_GraphOfAllIsSure.j0 k a0 l1 l2 a3 a4 a5 true))) else (antiquarylaw27_GraphOfAllIsSure.j0 k a0 l1 l2 a3 a4 a5 true))) = some r := by rw [if_pos rfl] at H; exact H
      clear H
      have H := H1
      clear H1
      replace H := Option.bind_eq_some_iff.mp H
      obtain ⟨t245, A100, H⟩ := H
      replace H : (if t245 = true then ((antiquaryref09_Fit.f k l1).bind fun t246 => (if t246 = true then (if 0 < (l1.length : Int) then ((antiquaryref04_Alike.f k (rd_L1 l1 0) l2).bind fun t248 => (if t248 = true then (if a4 < 0 then (antiquarylaw27_GraphOfAllIsSure.j0 k a0 l1 l2 a3 a4 a5 true) else (antiquarylaw27_GraphOfAllIsSure.j0 k a0 l1 l2 a3 a4 a5 (decide (a4 > 134217728)))) else (antiquarylaw27_GraphOfAllIsSure.j0 k a0 l1 l2 a3 a4 a5 true))) else (none)) else (antiquarylaw27_GraphOfAllIsSure.j0 k a0 l1 l2 a3 a4 a5 true))) else (antiquarylaw27_GraphOfAllIsSure.j0 k a0 l1 l2 a3 a4 a5 true)) = some r := H
      have A10 := Aside0.mk A100
      clear A100
      by_cases c11 : t245 = true
      · subst c11
        have H1 : ((antiquaryref09_Fit.f k l1).bind fun t246 => (if t246 = true then (if 0 < (l1.length : Int) then ((antiquaryref04_Alike.f k (rd_L1 l1 0) l2).bind fun t248 => (if t248 = true then (if a4 < 0 then (antiquarylaw27_GraphOfAllIsSure.j0 k a0 l1 l2 a3 a4 a5 true) else (antiquarylaw27_GraphOfAllIsSure.j0 k a0 l1 l2 a3 a4 a5 (decide (a4 > 134217728)))) else (antiquarylaw27_GraphOfAllIsSure.j0 k a0 l1 l2 a3 a4 a5 true))) else (none)) else (antiquarylaw27_GraphOfAllIsSure.j0 k a0 l1 l2 a3 a4 a5 true))) = some r := by rw [if_pos rfl] at H; exact H
        clear H
        have H := H1
        clear H1
        replace H := Option.bind_eq_some_iff.mp H
        obtain ⟨t246, A120, H⟩ := H
        replace H : (if t246 = true then (if 0 < (l1.length : Int) then ((antiquaryref04_Alike.f k (rd_L1 l1 0) l2).bind fun t248 => (if t248 = true then (if a4 < 0 then (antiquarylaw27_GraphOfAllIsSure.j0 k a0 l1 l2 a3 a4 a5 true) else (antiquarylaw27_GraphOfAllIsSure.j0 k a0 l1 l2 a3 a4 a5 (decide (a4 > 134217728)))) else (antiquarylaw27_GraphOfAllIsSure.j0 k a0 l1 l2 a3 a4 a5 true))) else (none)) else (antiquarylaw27_GraphOfAllIsSure.j0 k a0 l1 l2 a3 a4 a5 true)) = some r := H
        have A12 := Aside0.mk A120
        clear A120
        by_cases c13 : t246 = true
        · subst c13
          have H1 : (if 0 < (l1.length : Int) then ((antiquaryref04_Alike.f k (rd_L1 l1 0) l2).bind fun t248 => (if t248 = true then (if a4 < 0 then (antiquarylaw27_GraphOfAllIsSure.j0 k a0 l1 l2 a3 a4 a5 true) else (antiquarylaw27_GraphOfAllIsSure.j0 k a0 l1 l2 a3 a4 a5 (decide (a4 > 134217728)))) else (antiquarylaw27_GraphOfAllIsSure.j0 k a0 l1 l2 a3 a4 a5 true))) else (none)) = some r := by rw [if_pos rfl] at H; exact H
          clear H
          have H := H1
          clear H1
          by_cases c14 : 0 < (l1.length : Int)
          · rw [if_pos c14] at H
            have c14b0 : decide (0 < (l1.length : Int)) = true := decide_eq_true c14
            have c14b1 : decide (0 < l1.length) = true := decide_eq_true (by omega)
            clear c14
            (first | rw [c14b0] | (simp only [i64_w, i32_w]; rw [c14b0]) | skip)
            replace H := Option.bind_eq_some_iff.mp H
            obtain ⟨t248, A150, H⟩ := H
            replace H : (if t248 = true then (if a4 < 0 then (antiquarylaw27_GraphOfAllIsSure.j0 k a0 l1 l2 a3 a4 a5 true) else (antiquarylaw27_GraphOfAllIsSure.j0 k a0 l1 l2 a3 a4 a5 (decide (a4 > 134217728)))) else (antiquarylaw27_GraphOfAllIsSure.j0 k a0 l1 l2 a3 a4 a5 true)) = some r := H
            have A15 := Aside0.mk A150
            clear A150
            by_cases c16 : t248 = true
            · subst c16
              have H1 : (if a4 < 0 then (antiquarylaw27_GraphOfAllIsSure.j0 k a0 l1 l2 a3 a4 a5 true) else (antiquarylaw27_GraphOfAllIsSure.j0 k a0 l1 l2 a3 a4 a5 (decide (a4 > 134217728)))) = some r := by rw [if_pos rfl] at H; exact H
              clear H
              have H := H1
              clear H1
              by_cases c17 : a4 < 0
              · rw [if_pos c17] at H
                have c17b0 : decide (a4 < 0) = true := decide_eq_true c17
                clear c17
                have H' := Aside0.mk H
                clear H
                go_wp2_with (first | ((with_reducible refine gate_callee (f := 6) rfl ?_); refine goesL_ (some 31) rfl rfl Try.func6 (by kernel_rfl) rfl #[.slice A1 l1.length c1, .int .i64 25] rfl (by (try simp only [List.map_toArray, List.map_cons, List.map_nil]); first | done | rfl | (simp only [List.length_drop, List.length_take]; rfl)) ?_; (with_reducible refine (antiquaryref09_Few.calls k _ _ l1 25 true _ ?side1 ?side2 A8.out).mono ?_); (case side1 => repeat (first | exact (Kd.C_below HR1.out HB.out) | (with_reducible refine Kd.C_alloc ?_ _) | (with_reducible refine Kd.C_drewN ?_ _) | (with_reducible refine Kd.C_drew ?_))); (case side2 => exact HC1.out); rintro e w' ⟨rfl, ⟨nd, rfl⟩⟩; refine ⟨_, rfl, ?_⟩) | (go_at_call 15; (with_reducible refine (antiquaryref09_Metric.calls a0 true _ A10.out).mono ?_); rintro e w' ⟨rfl, ⟨nd, rfl⟩⟩) | (go_at_call 16; (with_reducible refine (antiquaryref09_Fit.calls k _ _ l1 true _ ?side1 ?side2 A12.out).mono ?_); (case side1 => repeat (first | exact (Kd.C_below HR1.out (by repeat (first | (with_reducible first | exact HB.out | apply below_alloc | apply pw_below_drewN | apply below_drew1) | exact HB.out))) | (with_reducible refine Kd.C_alloc ?_ _) | (with_reducible refine Kd.C_drewN ?_ _) | (with_reducible refine Kd.C_drew ?_))); (case side2 => exact HC1.out); rintro e w' ⟨rfl, ⟨nd, rfl⟩⟩; have p247 : 0 ≤ (0 : Int) := (by omega); have q247 : 0 < (l1.length : Int) := of_decide_eq_true (by first | (with_reducible assumption) | assumption); obtain ⟨ad247, A247_0, c247_0, e247, hx247_0, hl247_0, hi247_0⟩ := at_L1 HR1.out 0 p247 q247; cases e247; have qi247 : (0 < l1.length) = True := eq_true (by omega); (try rw [show ((0 : Int)).toNat = 0 from rfl] at hx247_0); (try rw [Addr.add_zero'] at hx247_0); replace hx247_0 := (HB.out.cell (World.block_lt_of_cell? w _ hx247_0)).trans hx247_0; have HR247_0 := Aside0.mk hi247_0; have HC247_0 := Aside0.mk hl247_0; clear hi247_0 hl247_0; replace p247 := eq_true p247; replace q247 := eq_true q247) | (go_at_call 9; (with_reducible refine (antiquaryref04_Alike.calls k _ _ (rd_L1 l1 0) _ _ l2 true _ ?side1 ?side2 ?side3 ?side4 A15.out).mono ?_); (case side1 => repeat (first | exact (Kd.C_below HR247_0.out (by repeat (first | (with_reducible first | exact HB.out | apply below_alloc | apply pw_below_drewN | apply below_drew1) | exact HB.out))) | (with_reducible refine Kd.C_alloc ?_ _) | (with_reducible refine Kd.C_drewN ?_ _) | (with_reducible refine Kd.C_drew ?_))); (case side2 => exact HC247_0.out); (case side3 => repeat (first | exact (Kd.C_below HR2.out (by repeat (first | (with_reducible first | exact HB.out | apply below_alloc | apply pw_below_drewN | apply below_drew1) | exact HB.out))) | (with_reducible refine Kd.C_alloc ?_ _) | (with_reducible refine Kd.C_drewN ?_ _) | (with_reducible refine Kd.C_drew ?_))); (case side4 => exact HC2.out); rintro e w' ⟨rfl, ⟨nd, rfl⟩⟩))
                go_meet
                case rel => exact ⟨_, (true), (by first | rfl | (simp; done) | (simp [*]; done)), H', ⟨by first | omega | exact Nat.le_refl _⟩, ⟨by repeat (first | (with_reducible first | exact HB.out | apply below_alloc | apply pw_below_drewN | apply below_drew1) | exact HB.out)⟩⟩
              · rw [if_neg c17] at H
                have c17b0 : decide (a4 < 0) = false := decide_eq_false c17
                clear c17
                have H' := Aside0.mk H
                clear H
                go_wp2_with (first | ((with_reducible refine gate_callee (f := 6) rfl ?_); refine goesL_ (some 31) rfl rfl Try.func6 (by kernel_rfl) rfl #[.slice A1 l1.length c1, .int .i64 25] rfl (by (try simp only [List.map_toArray, List.map_cons, List.map_nil]); first | done | rfl | (simp only [List.length_drop, List.length_take]; rfl)) ?_; (with_reducible refine (antiquaryref09_Few.calls k _ _ l1 25 true _ ?side1 ?side2 A8.out).mono ?_); (case side1 => repeat (first | exact (Kd.C_below HR1.out HB.out) | (with_reducible refine Kd.C_alloc ?_ _) | (with_reducible refine Kd.C_drewN ?_ _) | (with_reducible refine Kd.C_drew ?_))); (case side2 => exact HC1.out); rintro e w' ⟨rfl, ⟨nd, rfl⟩⟩; refine ⟨_, rfl, ?_⟩) | (go_at_call 15; (with_reducible refine (antiquaryref09_Metric.calls a0 true _ A10.out).mono ?_); rintro e w' ⟨rfl, ⟨nd, rfl⟩⟩) | (go_at_call 16; (with_reducible refine (antiquaryref09_Fit.calls k _ _ l1 true _ ?side1 ?side2 A12.out).mono ?_); (case side1 => repeat (first | exact (Kd.C_below HR1.out (by repeat (first | (with_reducible first | exact HB.out | apply below_alloc | apply pw_below_drewN | apply below_drew1) | exact HB.out))) | (with_reducible refine Kd.C_alloc ?_ _) | (with_reducible refine Kd.C_drewN ?_ _) | (with_reducible refine Kd.C_drew ?_))); (case side2 => exact HC1.out); rintro e w' ⟨rfl, ⟨nd, rfl⟩⟩; have p247 : 0 ≤ (0 : Int) := (by omega); have q247 : 0 < (l1.length : Int) := of_decide_eq_true (by first | (with_reducible assumption) | assumption); obtain ⟨ad247, A247_0, c247_0, e247, hx247_0, hl247_0, hi247_0⟩ := at_L1 HR1.out 0 p247 q247; cases e247; have qi247 : (0 < l1.length) = True := eq_true (by omega); (try rw [show ((0 : Int)).toNat = 0 from rfl] at hx247_0); (try rw [Addr.add_zero'] at hx247_0); replace hx247_0 := (HB.out.cell (World.block_lt_of_cell? w _ hx247_0)).trans hx247_0; have HR247_0 := Aside0.mk hi247_0; have HC247_0 := Aside0.mk hl247_0; clear hi247_0 hl247_0; replace p247 := eq_true p247; replace q247 := eq_true q247) | (go_at_call 9; (with_reducible refine (antiquaryref04_Alike.calls k _ _ (rd_L1 l1 0) _ _ l2 true _ ?side1 ?side2 ?side3 ?side4 A15.out).mono ?_); (case side1 => repeat (first | exact (Kd.C_below HR247_0.out (by repeat (first | (with_reducible first | exact HB.out | apply below_alloc | apply pw_below_drewN | apply below_drew1) | exact HB.out))) | (with_reducible refine Kd.C_alloc ?_ _) | (with_reducible refine Kd.C_drewN ?_ _) | (with_reducible refine Kd.C_drew ?_))); (case side2 => exact HC247_0.out); (case side3 => repeat (first | exact (Kd.C_below HR2.out (by repeat (first | (with_reducible first | exact HB.out | apply below_alloc | apply pw_below_drewN | apply below_drew1) | exact HB.out))) | (with_reducible refine Kd.C_alloc ?_ _) | (with_reducible refine Kd.C_drewN ?_ _) | (with_reducible refine Kd.C_drew ?_))); (case side4 => exact HC2.out); rintro e w' ⟨rfl, ⟨nd, rfl⟩⟩))
                go_meet
                case rel => exact ⟨_, (decide (a4 > 134217728)), (by first | rfl | (simp; done) | (simp [*]; done)), H', ⟨by first | omega | exact Nat.le_refl _⟩, ⟨by repeat (first | (with_reducible first | exact HB.out | apply below_alloc | apply pw_below_drewN | apply below_drew1) | exact HB.out)⟩⟩
            · replace c16 := Bool.eq_false_iff.mpr c16
              subst c16
              have H1 : (antiquarylaw27_GraphOfAllIsSure.j0 k a0 l1 l2 a3 a4 a5 true) = some r := by rw [if_neg (show ¬ (false = true) by decide)] at H; exact H
              clear H
              have H := H1
              clear H1
              have H' := Aside0.mk H
              clear H
              go_wp2_with (first | ((with_reducible refine gate_callee (f := 6) rfl ?_); refine goesL_ (some 31) rfl rfl Try.func6 (by kernel_rfl) rfl #[.slice A1 l1.length c1, .int .i64 25] rfl (by (try simp only [List.map_toArray, List.map_cons, List.map_nil]); first | done | rfl | (simp only [List.length_drop, List.length_take]; rfl)) ?_; (with_reducible refine (antiquaryref09_Few.calls k _ _ l1 25 true _ ?side1 ?side2 A8.out).mono ?_); (case side1 => repeat (first | exact (Kd.C_below HR1.out HB.out) | (with_reducible refine Kd.C_alloc ?_ _) | (with_reducible refine Kd.C_drewN ?_ _) | (with_reducible refine Kd.C_drew ?_))); (case side2 => exact HC1.out); rintro e w' ⟨rfl, ⟨nd, rfl⟩⟩; refine ⟨_, rfl, ?_⟩) | (go_at_call 15; (with_reducible refine (antiquaryref09_Metric.calls a0 true _ A10.out).mono ?_); rintro e w' ⟨rfl, ⟨nd, rfl⟩⟩) | (go_at_call 16; (with_reducible refine (antiquaryref09_Fit.calls k _ _ l1 true _ ?side1 ?side2 A12.out).mono ?_); (case side1 => repeat (first | exact (Kd.C_below HR1.out (by repeat (first | (with_reducible first | exact HB.out | apply below_alloc | apply pw_below_drewN | apply below_drew1) | exact HB.out))) | (with_reducible refine Kd.C_alloc ?_ _) | (with_reducible refine Kd.C_drewN ?_ _) | (with_reducible refine Kd.C_drew ?_))); (case side2 => exact HC1.out); rintro e w' ⟨rfl, ⟨nd, rfl⟩⟩; have p247 : 0 ≤ (0 : Int) := (by omega); have q247 : 0 < (l1.length : Int) := of_decide_eq_true (by first | (with_reducible assumption) | assumption); obtain ⟨ad247, A247_0, c247_0, e247, hx247_0, hl247_0, hi247_0⟩ := at_L1 HR1.out 0 p247 q247; cases e247; have qi247 : (0 < l1.length) = True := eq_true (by omega); (try rw [show ((0 : Int)).toNat = 0 from rfl] at hx247_0); (try rw [Addr.add_zero'] at hx247_0); replace hx247_0 := (HB.out.cell (World.block_lt_of_cell? w _ hx247_0)).trans hx247_0; have HR247_0 := Aside0.mk hi247_0; have HC247_0 := Aside0.mk hl247_0; clear hi247_0 hl247_0; replace p247 := eq_true p247; replace q247 := eq_true q247) | (go_at_call 9; (with_reducible refine (antiquaryref04_Alike.calls k _ _ (rd_L1 l1 0) _ _ l2 false _ ?side1 ?side2 ?side3 ?side4 A15.out).mono ?_); (case side1 => repeat (first | exact (Kd.C_below HR247_0.out (by repeat (first | (with_reducible first | exact HB.out | apply below_alloc | apply pw_below_drewN | apply below_drew1) | exact HB.out))) | (with_reducible refine Kd.C_alloc ?_ _) | (with_reducible refine Kd.C_drewN ?_ _) | (with_reducible refine Kd.C_drew ?_))); (case side2 => exact HC247_0.out); (case side3 => repeat (first | exact (Kd.C_below HR2.out (by repeat (first | (with_reducible first | exact HB.out | apply below_alloc | apply pw_below_drewN | apply below_drew1) | exact HB.out))) | (with_reducible refine Kd.C_alloc ?_ _) | (with_reducible refine Kd.C_drewN ?_ _) | (with_reducible refine Kd.C_drew ?_))); (case side4 => exact HC2.out); rintro e w' ⟨rfl, ⟨nd, rfl⟩⟩))
              go_meet
              case rel => exact ⟨_, (true), (by first | rfl | (simp; done) | (simp [*]; done)), H', ⟨by first | omega | exact Nat.le_refl _⟩, ⟨by repeat (first | (with_reducible first | exact HB.out | apply below_alloc | apply pw_below_drewN | apply below_drew1) | exact HB.out)⟩⟩
          · rw [if_neg c14] at H
            exact absurd H (by simp)
        · replace c13 := Bool.eq_false_iff.mpr c13
          subst c13
          have H1 : (antiquarylaw27_GraphOfAllIsSure.j0 k a0 l1 l2 a3 a4 a5 true) = some r := by rw [if_neg (show ¬ (false = true) by decide)] at H; exact H
          clear H
          have H := H1
          clear H1
          have H' := Aside0.mk H
          clear H
          go_wp2_with (first | ((with_reducible refine gate_callee (f := 6) rfl ?_); refine goesL_ (some 31) rfl rfl Try.func6 (by kernel_rfl) rfl #[.slice A1 l1.length c1, .int .i64 25] rfl (by (try simp only [List.map_toArray, List.map_cons, List.map_nil]); first | done | rfl | (simp only [List.length_drop, List.length_take]; rfl)) ?_; (with_reducible refine (antiquaryref09_Few.calls k _ _ l1 25 true _ ?side1 ?side2 A8.out).mono ?_); (case side1 => repeat (first | exact (Kd.C_below HR1.out HB.out) | (with_reducible refine Kd.C_alloc ?_ _) | (with_reducible refine Kd.C_drewN ?_ _) | (with_reducible refine Kd.C_drew ?_))); (case side2 => exact HC1.out); rintro e w' ⟨rfl, ⟨nd, rfl⟩⟩; refine ⟨_, rfl, ?_⟩) | (go_at_call 15; (with_reducible refine (antiquaryref09_Metric.calls a0 true _ A10.out).mono ?_); rintro e w' ⟨rfl, ⟨nd, rfl⟩⟩) | (go_at_call 16; (with_reducible refine (antiquaryref09_Fit.calls k _ _ l1 false _ ?side1 ?side2 A12.out).mono ?_); (case side1 => repeat (first | exact (Kd.C_below HR1.out (by repeat (first | (with_reducible first | exact HB.out | apply below_alloc | apply pw_below_drewN | apply below_drew1) | exact HB.out))) | (with_reducible refine Kd.C_alloc ?_ _) | (with_reducible refine Kd.C_drewN ?_ _) | (with_reducible refine Kd.C_drew ?_))); (case side2 => exact HC1.out); rintro e w' ⟨rfl, ⟨nd, rfl⟩⟩))
          go_meet
          case rel => exact ⟨_, (true), (by first | rfl | (simp; done) | (simp [*]; done)), H', ⟨by first | omega | exact Nat.le_refl _⟩, ⟨by repeat (first | (with_reducible first | exact HB.out | apply below_alloc | apply pw_below_drewN | apply below_drew1) | exact HB.out)⟩⟩
      · replace c11 := Bool.eq_false_iff.mpr c11
        subst c11
        have H1 : (antiquarylaw27_GraphOfAllIsSure.j0 k a0 l1 l2 a3 a4 a5 true) = some r := by rw [if_neg (show ¬ (false = true) by decide)] at H; exact H
        clear H
        have H := H1
        clear H1
        have H' := Aside0.mk H
        clear H
        go_wp2_with (first | ((with_reducible refine gate_callee (f := 6) rfl ?_); refine goesL_ (some 31) rfl rfl Try.func6 (by kernel_rfl) rfl #[.slice A1 l1.length c1, .int .i64 25] rfl (by (try simp only [List.map_toArray, List.map_cons, List.map_nil]); first | done | rfl | (simp only [List.length_drop, List.length_take]; rfl)) ?_; (with_reducible refine (antiquaryref09_Few.calls k _ _ l1 25 true _ ?side1 ?side2 A8.out).mono ?_); (case side1 => repeat (first | exact (Kd.C_below HR1.out HB.out) | (with_reducible refine Kd.C_alloc ?_ _) | (with_reducible refine Kd.C_drewN ?_ _) | (with_reducible refine Kd.C_drew ?_))); (case side2 => exact HC1.out); rintro e w' ⟨rfl, ⟨nd, rfl⟩⟩; refine ⟨_, rfl, ?_⟩) | (go_at_call 15; (with_reducible refine (antiquaryref09_Metric.calls a0 false _ A10.out).mono ?_); rintro e w' ⟨rfl, ⟨nd, rfl⟩⟩))
        go_meet
        case rel => exact ⟨_, (true), (by first | rfl | (simp; done) | (simp [*]; done)), H', ⟨by first | omega | exact Nat.le_refl _⟩, ⟨by repeat (first | (with_reducible first | exact HB.out | apply below_alloc | apply pw_below_drewN | apply below_drew1) | exact HB.out)⟩⟩
    · replace c9 := Bool.eq_false_iff.mpr c9
      subst c9
      have H1 : (antiquarylaw27_GraphOfAllIsSure.j0 k a0 l1 l2 a3 a4 a5 true) = some r := by rw [if_neg (show ¬ (false = true) by decide)] at H; exact H
      clear H
      have H := H1
      clear H1
      have H' := Aside0.mk H
      clear H
      go_wp2_with (first | ((with_reducible refine gate_callee (f := 6) rfl ?_); refine goesL_ (some 31) rfl rfl Try.func6 (by kernel_rfl) rfl #[.slice A1 l1.length c1, .int .i64 25] rfl (by (try simp only [List.map_toArray, List.map_cons, List.map_nil]); first | done | rfl | (simp only [List.length_drop, List.length_take]; rfl)) ?_; (with_reducible refine (antiquaryref09_Few.calls k _ _ l1 25 false _ ?side1 ?side2 A8.out).mono ?_); (case side1 => repeat (first | exact (Kd.C_below HR1.out HB.out) | (with_reducible refine Kd.C_alloc ?_ _) | (with_reducible refine Kd.C_drewN ?_ _) | (with_reducible refine Kd.C_drew ?_))); (case side2 => exact HC1.out); rintro e w' ⟨rfl, ⟨nd, rfl⟩⟩; refine ⟨_, rfl, ?_⟩))
      go_meet
      case rel => exact ⟨_, (true), (by first | rfl | (simp; done) | (simp [*]; done)), H', ⟨by first | omega | exact Nat.le_refl _⟩, ⟨by repeat (first | (with_reducible first | exact HB.out | apply below_alloc | apply pw_below_drewN | apply below_drew1) | exact HB.out)⟩⟩
  case rest =>
    clear HC7
    try clear c1
    try clear c2
    try clear p2
    try clear q2
    try clear hx2
    try clear qi2
    try clear c5
    try clear c6
    try clear c9
    try clear c11
    try clear c13
    try clear c14
    try clear c14b0
    try clear c14b1
    try clear c16
    try clear c17
    try clear c17b0
    try clear hx247_0
    try clear p247
    try clear q247
    obtain ⟨kq, x58_6, rfl, HA, HJ6, HB⟩ := hcut
    cases kq with
    | zero => exact absurd HA.out (by simp [antiquarylaw27_GraphOfAllIsSure.j0])
    | succ kj6 =>
      have H := HA.out
      clear HA
      simp only [antiquarylaw27_GraphOfAllIsSure.j0] at H
      by_cases c18 : x58_6 = true
      · subst c18
        have H1 : ((antiquarylaw27_sanity.f).bind fun t249 => (some t249)) = some r := by rw [if_pos rfl] at H; exact H
        clear H
        have H := H1
        clear H1
        replace H := Option.bind_eq_some_iff.mp H
        obtain ⟨t249, A190, H⟩ := H
        replace H : (some t249) = some r := H
        have A19 := Aside0.mk A190
        clear A190
        obtain rfl := Option.some.inj H
        go_wp2_with (first | ((with_reducible refine gate_callee (f := 10) rfl ?_); refine goesL_ (some 59) rfl rfl Try.func10 (by kernel_rfl) rfl #[] rfl (by (try simp only [List.map_toArray, List.map_cons, List.map_nil]); first | done | rfl | (simp only [List.length_drop, List.length_take]; rfl)) ?_; (with_reducible refine (antiquarylaw27_sanity.calls  t249 _ A19.out).mono ?_); rintro e w20 ⟨rfl, hb⟩; refine ⟨_, rfl, ?_⟩; have n0_ := Aside0.mk (below_step (by repeat (first | (with_reducible first | exact HB.out | apply below_alloc | apply pw_below_drewN | apply below_drew1) | exact HB.out)) hb); clear HB; have HB := n0_; clear n0_; (try clear hb); (try clear hb2); (try clear hk); (try clear hi)))
        go_ret
        exact ⟨by first | rfl | (simp [errW_none, errW_some] <;> rfl) | (simp [*, errW_none, errW_some] <;> rfl), by repeat (first | (with_reducible first | exact HB.out | apply below_alloc | apply pw_below_drewN | apply below_drew1) | exact HB.out)⟩
      · replace c18 := Bool.eq_false_iff.mpr c18
        subst c18
        have H1 : (if (l1.length : Int) = 0 then (none) else ((graph_Build.f a0 l1 (l1.length : Int)).bind fun bt250 => ((graph_Walk.f a0 l1 bt250.1 l2 (Int.tmod (wrap64 (a3)) (l1.length : Int))).bind fun bt255 => ((graph_Nearest.f a0 l1 bt250.1 l2 (Int.tmod (wrap64 (a3)) (l1.length : Int)) (wrap64 (1 + (Int.tmod (wrap64 (a5)) 64)))).bind fun bt259 => (if bt250.2 = 0 then (if bt255.2 = 0 then (if bt259.2.2.2 = 0 then (if (bt255.1.length : Int) > 2 then (antiquarylaw27_GraphOfAllIsSure.j1 kj6 a0 l1 l2 a4 (Int.tmod (wrap64 (a3)) (l1.length : Int)) true bt250.1) else (antiquarylaw27_GraphOfAllIsSure.j1 kj6 a0 l1 l2 a4 (Int.tmod (wrap64 (a3)) (l1.length : Int)) (!bt259.2.2.1) bt250.1)) else (antiquarylaw27_GraphOfAllIsSure.j1 kj6 a0 l1 l2 a4 (Int.tmod (wrap64 (a3)) (l1.length : Int)) true bt250.1)) else (antiquarylaw27_GraphOfAllIsSure.j1 kj6 a0 l1 l2 a4 (Int.tmod (wrap64 (a3)) (l1.length : Int)) true bt250.1)) else (antiquarylaw27_GraphOfAllIsSure.j1 kj6 a0 l1 l2 a4 (Int.tmod (wrap64 (a3)) (l1.length : Int)) true bt250.1)))))) = some r := by rw [if_neg (show ¬ (false = true) by decide)] at H; exact H
        clear H
        have H := H1
        clear H1
        by_cases c21 : (l1.length : Int) = 0
        · rw [if_pos c21] at H
          exact absurd H (by simp)
        · rw [if_neg c21] at H
          have c21b0 : ((l1.length : Int) == 0) = false := beq_eq_false_iff_ne.mpr c21
          have c21b1 : ((l1.length : Int) != 0) = true := bne_iff_ne.mpr c21
          have c21b2 : ¬ (l1 = []) := fun h_ => c21 (by rw [h_]; rfl)
          replace H := Option.bind_eq_some_iff.mp H
          obtain ⟨⟨t250, t253⟩, A220, H⟩ := H
          replace H : ((graph_Walk.f a0 l1 t250 l2 (Int.tmod (wrap64 (a3)) (l1.length : Int))).bind fun bt255 => ((graph_Nearest.f a0 l1 t250 l2 (Int.tmod (wrap64 (a3)) (l1.length : Int)) (wrap64 (1 + (Int.tmod (wrap64 (a5)) 64)))).bind fun bt259 => (if t253 = 0 then (if bt255.2 = 0 then (if bt259.2.2.2 = 0 then (if (bt255.1.length : Int) > 2 then (antiquarylaw27_GraphOfAllIsSure.j1 kj6 a0 l1 l2 a4 (Int.tmod (wrap64 (a3)) (l1.length : Int)) true t250) else (antiquarylaw27_GraphOfAllIsSure.j1 kj6 a0 l1 l2 a4 (Int.tmod (wrap64 (a3)) (l1.length : Int)) (!bt259.2.2.1) t250)) else (antiquarylaw27_GraphOfAllIsSure.j1 kj6 a0 l1 l2 a4 (Int.tmod (wrap64 (a3)) (l1.length : Int)) true t250)) else (antiquarylaw27_GraphOfAllIsSure.j1 kj6 a0 l1 l2 a4 (Int.tmod (wrap64 (a3)) (l1.length : Int)) true t250)) else (antiquarylaw27_GraphOfAllIsSure.j1 kj6 a0 l1 l2 a4 (Int.tmod (wrap64 (a3)) (l1.length : Int)) true t250)))) = some r := H
          have A22 := Aside0.mk A220
          clear A220
          replace H := Option.bind_eq_some_iff.mp H
          obtain ⟨⟨t255, t258⟩, A230, H⟩ := H
          replace H : ((graph_Nearest.f a0 l1 t250 l2 (Int.tmod (wrap64 (a3)) (l1.length : Int)) (wrap64 (1 + (Int.tmod (wrap64 (a5)) 64)))).bind fun bt259 => (if t253 = 0 then (if t258 = 0 then (if bt259.2.2.2 = 0 then (if (t255.length : Int) > 2 then (antiquarylaw27_GraphOfAllIsSure.j1 kj6 a0 l1 l2 a4 (Int.tmod (wrap64 (a3)) (l1.length : Int)) true t250) else (antiquarylaw27_GraphOfAllIsSure.j1 kj6 a0 l1 l2 a4 (Int.tmod (wrap64 (a3)) (l1.length : Int)) (!bt259.2.2.1) t250)) else (antiquarylaw27_GraphOfAllIsSure.j1 kj6 a0 l1 l2 a4 (Int.tmod (wrap64 (a3)) (l1.length : Int)) true t250)) else (antiquarylaw27_GraphOfAllIsSure.j1 kj6 a0 l1 l2 a4 (Int.tmod (wrap64 (a3)) (l1.length : Int)) true t250)) else (antiquarylaw27_GraphOfAllIsSure.j1 kj6 a0 l1 l2 a4 (Int.tmod (wrap64 (a3)) (l1.length : Int)) true t250))) = some r := H
          have A23 := Aside0.mk A230
          clear A230
          replace H := Option.bind_eq_some_iff.mp H
          obtain ⟨⟨t259, t262, t263, t264⟩, A240, H⟩ := H
          replace H : (if t253 = 0 then (if t258 = 0 then (if t264 = 0 then (if (t255.length : Int) > 2 then (antiquarylaw27_GraphOfAllIsSure.j1 kj6 a0 l1 l2 a4 (Int.tmod (wrap64 (a3)) (l1.length : Int)) true t250) else (antiquarylaw27_GraphOfAllIsSure.j1 kj6 a0 l1 l2 a4 (Int.tmod (wrap64 (a3)) (l1.length : Int)) (!t263) t250)) else (antiquarylaw27_GraphOfAllIsSure.j1 kj6 a0 l1 l2 a4 (Int.tmod (wrap64 (a3)) (l1.length : Int)) true t250)) else (antiquarylaw27_GraphOfAllIsSure.j1 kj6 a0 l1 l2 a4 (Int.tmod (wrap64 (a3)) (l1.length : Int)) true t250)) else (antiquarylaw27_GraphOfAllIsSure.j1 kj6 a0 l1 l2 a4 (Int.tmod (wrap64 (a3)) (l1.length : Int)) true t250)) = some r := H
          have A24 := Aside0.mk A240
          clear A240
          have HC25 := Aside0.mk H
          clear H
          go_upto_region 7 with (first | ((with_reducible refine gate_callee (f := 17) rfl ?_); refine goesL_ (some 70) rfl rfl Try.func17 (by kernel_rfl) rfl #[.int .i64 a0, .slice A1 l1.length c1, .int .i64 (l1.length : Int)] rfl (by (try simp only [List.map_toArray, List.map_cons, List.map_nil]); first | done | rfl | (simp only [List.length_drop, List.length_take]; rfl)) ?_; (with_reducible refine (graph_Build.calls a0 _ _ l1 (l1.length : Int) t250 t253 _ ?side1 ?side2 A22.out).mono ?_); (case side1 => repeat (first | exact (Kd.C_below HR1.out HB.out) | (with_reducible refine Kd.C_alloc ?_ _) | (with_reducible refine Kd.C_drewN ?_ _) | (with_reducible refine Kd.C_drew ?_))); (case side2 => exact HC1.out); rintro e w26 ⟨v251, rfl, ho0, hb⟩; refine ⟨_, rfl, ?_⟩; have n0_ := Aside0.mk (Kd.N_lower (Kd.N_mono (ok' := fun k_ => True) (Kd.S_N (Kd.S_bound ho0)) (fun k_ hk_ => trivial)) (below_size (by repeat (first | (with_reducible first | exact HB.out | apply below_alloc | apply pw_below_drewN | apply below_drew1) | exact HB.out)))); have n1_ := Aside0.mk (below_step (by repeat (first | (with_reducible first | exact HB.out | apply below_alloc | apply pw_below_drewN | apply below_drew1) | exact HB.out)) hb); clear HB; have HO252 := n0_; have HB := n1_; clear n0_ n1_; (try clear hb); (try clear hb2); (try clear hk); (try clear hi); (try clear ho0)) | ((with_reducible refine gate_dst (N := 14) rfl ?_); (try (refine gate_guard (by rfl) ?_; dsimp only)); refine box_event ?hg (N := 14) ?hd (cs := #[.slice none 0 0]) (t := 25) ?hr ?_; (case hd => rfl); (case hg => rfl); (case hr => first | (go_simp; done) | (go_simp; rfl)); intro gb254 hg w27 hbox hb; have n0_ := Aside0.mk (Kd.N_below (Kd.N_elderB (by (with_reducible repeat (first | apply Kd.N_alloc | apply Kd.N_drewN | apply Kd.N_drew)); exact HO252.out) gb254 (Nat.le_of_eq hg.symm)) hb); have n1_ := Aside0.mk (below_step (by repeat (first | (with_reducible first | exact HB.out | apply below_alloc | apply pw_below_drewN | apply below_drew1) | exact HB.out)) hb); have n2_ := Aside0.mk (hbox); have n3_ := Aside0.mk ((by rw [hg]; exact (below_size (by repeat (first | (with_reducible first | exact HB.out | apply below_alloc | apply pw_below_drewN | apply below_drew1) | exact HB.out))) : w.heap.size ≤ gb254)); have n4_ := Aside0.mk ((by rw [hg]; exact (below_size (by repeat (first | (with_reducible first | exact HB.out | apply below_alloc | apply pw_below_drewN | apply below_drew1) | exact HB.out))) : w.heap.size ≤ gb254)); clear HO252; clear HB; have HO252 := n0_; have HB := n1_; have BK254 := n2_; have GW254 := n3_; have GE254 := n4_; clear n0_ n1_ n2_ n3_ n4_; clear hb hbox hg; obtain ⟨Ao28, co28, eo28⟩ := Kd.N_slice HO252.out; subst eo28; have hcz29_0 : w27.cell? ⟨gb254, 0, none⟩ = some (.slice none 0 0) := (blk_cell BK254.out 0).trans rfl; have hfz29_0 := blk_frozen BK254.out 0) | ((with_reducible refine gate_callee (f := 11) rfl ?_); refine goesL_ (some 79) rfl rfl Try.func11 (by kernel_rfl) rfl #[.int .i64 a0, .slice A1 l1.length c1, .agg #[.slice Ao28 t250.length co28], .slice A2 l2.length c2, .int .i64 (Int.tmod (wrap64 (a3)) (l1.length : Int))] rfl (by (try simp only [List.map_toArray, List.map_cons, List.map_nil]); first | done | rfl | (simp only [List.length_drop, List.length_take]; rfl)) ?_; (with_reducible refine (graph_Walk.calls a0 _ _ l1 _ _ t250 _ _ l2 (Int.tmod (wrap64 (a3)) (l1.length : Int)) t255 t258 _ ?side1 ?side2 ?side3 ?side4 ?side5 ?side6 A23.out).mono ?_); (case side1 => exact Kd.C_below HR1.out (by repeat (first | (with_reducible first | exact HB.out | apply below_alloc | apply pw_below_drewN | apply below_drew1 | refine below_set ?_ GE254.out) | exact HB.out))); (case side2 => exact HC1.out); (case side3 => refine (Kd.N_reads' (e := 39) (base := w.heap.size) (ok := fun k_ => (True ∧ k_ ≠ gb254)) (n := t250.length) (c := co28) ?_).2.2; exact (by (with_reducible repeat (first | apply Kd.N_alloc | apply Kd.N_drewN | apply Kd.N_drew)); exact (Kd.N_mono (Kd.N_far (p := ⟨gb254, 0, none⟩) (Kd.N_mono HO252.out (fun k_ hk => (⟨hk, hk.2⟩ : _ ∧ k_ ≠ gb254))) (fun _ hk => hk.2) (.slice Ao28 t250.length co28)) (fun _ h_ => h_.1)))); (case side4 => exact (Kd.N_reads' HO252.out).2.1); (case side5 => exact Kd.C_below HR2.out (by repeat (first | (with_reducible first | exact HB.out | apply below_alloc | apply pw_below_drewN | apply below_drew1 | refine below_set ?_ GE254.out) | exact HB.out))); (case side6 => exact HC2.out); rintro e w30 ⟨v256, rfl, ho0, hb⟩; refine ⟨_, rfl, ?_⟩; have n0_ := Aside0.mk (Kd.N_elder' (by (with_reducible repeat (first | apply Kd.N_alloc | apply Kd.N_drewN | apply Kd.N_drew)); exact (Kd.N_mono (Kd.N_far (p := ⟨gb254, 0, none⟩) (Kd.N_mono HO252.out (fun k_ hk => (⟨hk, hk.2⟩ : _ ∧ k_ ≠ gb254))) (fun _ hk => hk.2) (.slice Ao28 t250.length co28)) (fun _ h_ => h_.1))) (Kd.R_base ho0) hb); have n1_ := Aside0.mk (Kd.R_lower ho0 (below_size (by repeat (first | (with_reducible first | exact HB.out | apply below_alloc | apply pw_below_drewN | apply below_drew1 | refine below_set ?_ GE254.out) | exact HB.out)))); have n2_ := Aside0.mk (blk_below (g := gb254) (o := .cells #[.slice Ao28 t250.length co28] 25 (0, 0)) (by (with_reducible repeat (first | refine blk_drewN ?_ _ | refine blk_drew ?_ | refine blk_alloc ?_ _)); refine blk_put (cs := #[.slice none 0 0]) ?_ 0 _ rfl; (with_reducible repeat (first | refine blk_drewN ?_ _ | refine blk_drew ?_ | refine blk_alloc ?_ _)); exact BK254.out) hb); have n3_ := Aside0.mk (below_step (by repeat (first | (with_reducible first | exact HB.out | apply below_alloc | apply pw_below_drewN | apply below_drew1 | refine below_set ?_ GE254.out) | exact HB.out)) hb); clear HO252; clear BK254; clear HB; have HO252 := n0_; have HO257 := n1_; have BK254 := n2_; have HB := n3_; clear n0_ n1_ n2_ n3_; (try clear hb); (try clear hb2); (try clear hk); (try clear hi); (try clear ho0); have hcz31_0 : w30.cell? ⟨gb254, 0, none⟩ = some (.slice Ao28 t250.length co28) := (blk_cell BK254.out 0).trans rfl; have hfz31_0 := blk_frozen BK254.out 0) | ((with_reducible refine gate_callee (f := 13) rfl ?_); refine goesL_ (some 92) rfl rfl Try.func13 (by kernel_rfl) rfl #[.int .i64 a0, .slice A1 l1.length c1, .agg #[.slice Ao28 t250.length co28], .slice A2 l2.length c2, .int .i64 (Int.tmod (wrap64 (a3)) (l1.length : Int)), .int .i64 (wrap64 (1 + (Int.tmod (wrap64 (a5)) 64)))] rfl (by (try simp only [List.map_toArray, List.map_cons, List.map_nil]); first | done | rfl | (simp only [List.length_drop, List.length_take]; rfl)) ?_; (with_reducible refine (graph_Nearest.calls a0 _ _ l1 _ _ t250 _ _ l2 (Int.tmod (wrap64 (a3)) (l1.length : Int)) (wrap64 (1 + (Int.tmod (wrap64 (a5)) 64))) t259 t262 t263 t264 _ ?side1 ?side2 ?side3 ?side4 ?side5 ?side6 A24.out).mono ?_); (case side1 => repeat (first | exact (Kd.C_below HR1.out HB.out) | (with_reducible refine Kd.C_alloc ?_ _) | (with_reducible refine Kd.C_drewN ?_ _) | (with_reducible refine Kd.C_drew ?_))); (case side2 => exact HC1.out); (case side3 => repeat (first | exact (Kd.N_reads' HO252.out).2.2 | (with_reducible refine Kd.C_alloc ?_ _) | (with_reducible refine Kd.C_drewN ?_ _) | (with_reducible refine Kd.C_drew ?_))); (case side4 => exact (Kd.N_reads' HO252.out).2.1); (case side5 => repeat (first | exact (Kd.C_below HR2.out HB.out) | (with_reducible refine Kd.C_alloc ?_ _) | (with_reducible refine Kd.C_drewN ?_ _) | (with_reducible refine Kd.C_drew ?_))); (case side6 => exact HC2.out); rintro e w32 ⟨v260, rfl, ho0, hb⟩; refine ⟨_, rfl, ?_⟩; have n0_ := Aside0.mk (Kd.N_elder' (by (with_reducible repeat (first | apply Kd.N_alloc | apply Kd.N_drewN | apply Kd.N_drew)); exact HO252.out) (Kd.R_base ho0) hb); have n1_ := Aside0.mk (Kd.R_elder' (by (with_reducible repeat (first | apply Kd.R_alloc | apply Kd.R_drewN | apply Kd.R_drew)); exact HO257.out) (Kd.R_base ho0) hb); have n2_ := Aside0.mk (Kd.R_lower (Kd.R_new' ho0 (Kd.R_lt (by (with_reducible repeat (first | apply Kd.R_alloc | apply Kd.R_drewN | apply Kd.R_drew)); exact HO257.out))) (below_size (by repeat (first | (with_reducible first | exact HB.out | apply below_alloc | apply pw_below_drewN | apply below_drew1 | refine below_set ?_ GE254.out) | exact HB.out)))); have n3_ := Aside0.mk (blk_below (g := gb254) (o := .cells #[.slice Ao28 t250.length co28] 25 (0, 0)) (by (with_reducible repeat (first | refine blk_drewN ?_ _ | refine blk_drew ?_ | refine blk_alloc ?_ _)); exact BK254.out) hb); have n4_ := Aside0.mk (below_step (by repeat (first | (with_reducible first | exact HB.out | apply below_alloc | apply pw_below_drewN | apply below_drew1 | refine below_set ?_ GE254.out) | exact HB.out)) hb); clear HO252; clear HO257; clear BK254; clear HB; have HO252 := n0_; have HO257 := n1_; have HO261 := n2_; have BK254 := n3_; have HB := n4_; clear n0_ n1_ n2_ n3_ n4_; (try clear hb); (try clear hb2); (try clear hk); (try clear hi); (try clear ho0)))
          (try simp only [Act.put, List.setIfInBounds_toArray, List.set_cons_zero, List.set_cons_succ])
          go_cut [115] (fun v115 wc => ∃ (kq : Nat) (x115_24 : Bool), v115 = .bool x115_24 ∧ Aside0 (antiquarylaw27_GraphOfAllIsSure.j1 kq a0 l1 l2 a4 (Int.tmod (wrap64 (a3)) (l1.length : Int)) x115_24 t250 = some r) ∧ Aside0 (kq ≤ kj6) ∧ Aside0 (Kd.N k39 39 wc w.heap.size (fun k_ => k_ ≠ gb254) (.slice Ao28 t250.length co28) t250) ∧ Aside0 (wc.heap[gb254]? = some (.cells #[(.slice Ao28 t250.length co28)] 25 (0, 0))) ∧ Aside0 (Below w.heap.size w wc))
          case first =>
            have H := HC25.out
            clear HC25
            by_cases c33 : t253 = 0
            · rw [if_pos c33] at H
              have c33b0 : (t253 == 0) = true := beq_iff_eq.mpr c33
              have c33b1 : (t253 != 0) = false := bne_eq_false_iff_eq.mpr c33
              clear c33
              (first | rw [c33b0] | (simp only [i64_w, i32_w]; rw [c33b0]) | skip)
              by_cases c34 : t258 = 0
              · rw [if_pos c34] at H
                have c34b0 : (t258 == 0) = true := beq_iff_eq.mpr c34
                have c34b1 : (t258 != 0) = false := bne_eq_false_iff_eq.mpr c34
                clear c34
                by_cases c35 : t264 = 0
                · rw [if_pos c35] at H
                  have c35b0 : (t264 == 0) = true := beq_iff_eq.mpr c35
                  have c35b1 : (t264 != 0) = false := bne_eq_false_iff_eq.mpr c35
                  clear c35
                  by_cases c36 : (t255.length : Int) > 2
                  · rw [if_pos c36] at H
                    have c36b0 : decide (2 < (t255.length : Int)) = true := decide_eq_true c36
                    have c36b1 : decide (2 < t255.length) = true := decide_eq_true (by omega)
                    clear c36
                    have H' := Aside0.mk H
                    clear H
                    obtain ⟨Ao37, co37, eo37⟩ := Kd.R_slice HO257.out
                    subst eo37
                    go_wp2
                    go_meet
                    case rel => exact ⟨_, (true), (by first | rfl | (simp; done) | (simp [*]; done)), H', ⟨by have := HJ6.out; first | omega | exact Nat.le_refl _⟩, ⟨by (with_reducible repeat (first | apply Kd.N_alloc | apply Kd.N_drewN | apply Kd.N_drew)); exact Kd.N_mono HO252.out (fun _ hk => hk.1.1.2)⟩, ⟨by (with_reducible repeat (first | refine blk_drewN ?_ _ | refine blk_drew ?_ | refine blk_alloc ?_ _)); exact BK254.out⟩, ⟨by repeat (first | (with_reducible first | exact HB.out | apply below_alloc | apply pw_below_drewN | apply below_drew1 | refine below_set ?_ GE254.out) | exact HB.out)⟩⟩
                  · rw [if_neg c36] at H
                    have c36b0 : decide (2 < (t255.length : Int)) = false := decide_eq_false c36
                    have c36b1 : decide (2 < t255.length) = false := decide_eq_false (by omega)
                    clear c36
                    have H' := Aside0.mk H
                    clear H
                    obtain ⟨Ao38, co38, eo38⟩ := Kd.R_slice HO257.out
                    subst eo38
                    go_wp2
                    go_meet
                    case rel => exact ⟨_, (!t263), (by first | rfl | (simp; done) | (simp [*]; done)), H', ⟨by have := HJ6.out; first | omega | exact Nat.le_refl _⟩, ⟨by (with_reducible repeat (first | apply Kd.N_alloc | apply Kd.N_drewN | apply Kd.N_drew)); exact Kd.N_mono HO252.out (fun _ hk => hk.1.1.2)⟩, ⟨by (with_reducible repeat (first | refine blk_drewN ?_ _ | refine blk_drew ?_ | refine blk_alloc ?_ _)); exact BK254.out⟩, ⟨by repeat (first | (with_reducible first | exact HB.out | apply below_alloc | apply pw_below_drewN | apply below_drew1 | refine below_set ?_ GE254.out) | exact HB.out)⟩⟩
                · rw [if_neg c35] at H
                  have c35b0 : (t264 == 0) = false := beq_eq_false_iff_ne.mpr c35
                  have c35b1 : (t264 != 0) = true := bne_iff_ne.mpr c35
                  have H' := Aside0.mk H
                  clear H
                  go_wp2
                  go_meet
                  case rel => exact ⟨_, (true), (by first | rfl | (simp; done) | (simp [*]; done)), H', ⟨by have := HJ6.out; first | omega | exact Nat.le_refl _⟩, ⟨by (with_reducible repeat (first | apply Kd.N_alloc | apply Kd.N_drewN | apply Kd.N_drew)); exact Kd.N_mono HO252.out (fun _ hk => hk.1.1.2)⟩, ⟨by (with_reducible repeat (first | refine blk_drewN ?_ _ | refine blk_drew ?_ | refine blk_alloc ?_ _)); exact BK254.out⟩, ⟨by repeat (first | (with_reducible first | exact HB.out | apply below_alloc | apply pw_below_drewN | apply below_drew1 | refine below_set ?_ GE254.out) | exact HB.out)⟩⟩
              · rw [if_neg c34] at H
                have c34b0 : (t258 == 0) = false := beq_eq_false_iff_ne.mpr c34
                have c34b1 : (t258 != 0) = true := bne_iff_ne.mpr c34
                have H' := Aside0.mk H
                clear H
                go_wp2
                go_meet
                case rel => exact ⟨_, (true), (by first | rfl | (simp; done) | (simp [*]; done)), H', ⟨by have := HJ6.out; first | omega | exact Nat.le_refl _⟩, ⟨by (with_reducible repeat (first | apply Kd.N_alloc | apply Kd.N_drewN | apply Kd.N_drew)); exact Kd.N_mono HO252.out (fun _ hk => hk.1.1.2)⟩, ⟨by (with_reducible repeat (first | refine blk_drewN ?_ _ | refine blk_drew ?_ | refine blk_alloc ?_ _)); exact BK254.out⟩, ⟨by repeat (first | (with_reducible first | exact HB.out | apply below_alloc | apply pw_below_drewN | apply below_drew1 | refine below_set ?_ GE254.out) | exact HB.out)⟩⟩
            · rw [if_neg c33] at H
              have c33b0 : (t253 == 0) = false := beq_eq_false_iff_ne.mpr c33
              have c33b1 : (t253 != 0) = true := bne_iff_ne.mpr c33
              (first | rw [c33b0] | (simp only [i64_w, i32_w]; rw [c33b0]) | skip)
              have H' := Aside0.mk H
              clear H
              go_wp2
              go_meet
              case rel => exact ⟨_, (true), (by first | rfl | (simp; done) | (simp [*]; done)), H', ⟨by have := HJ6.out; first | omega | exact Nat.le_refl _⟩, ⟨by (with_reducible repeat (first | apply Kd.N_alloc | apply Kd.N_drewN | apply Kd.N_drew)); exact Kd.N_mono HO252.out (fun _ hk => hk.1.1.2)⟩, ⟨by (with_reducible repeat (first | refine blk_drewN ?_ _ | refine blk_drew ?_ | refine blk_alloc ?_ _)); exact BK254.out⟩, ⟨by repeat (first | (with_reducible first | exact HB.out | apply below_alloc | apply pw_below_drewN | apply below_drew1 | refine below_set ?_ GE254.out) | exact HB.out)⟩⟩
          case rest =>
            clear HC25
            try clear c1
            try clear c2
            try clear p2
            try clear q2
            try clear hx2
            try clear qi2
            try clear c3
            try clear c5
            try clear c6
            try clear p6
            try clear c9
            try clear c10
            try clear c11
            try clear c13
            try clear c14
            try clear c14b0
            try clear c14b1
            try clear c16
            try clear c17
            try clear c17b0
            try clear c18
            try clear c21
            try clear c21b0
            try clear c21b1
            try clear c21b2
            try clear c24
            try clear p24
            try clear q24
            try clear hx24
            try clear qi24
            try clear c33
            try clear c33b0
            try clear c33b1
            try clear c34
            try clear c34b0
            try clear c34b1
            try clear c35
            try clear c35b0
            try clear c35b1
            try clear c36
            try clear c36b0
            try clear c36b1
            try clear hcz29_0
            try clear hcz31_0
            try clear hfz29_0
            try clear hfz31_0
            try clear hx247_0
            try clear p2
            try clear p247
            try clear q2
            try clear q247
            obtain ⟨kq, x115_24, rfl, HA, HJ24, HO_255000, BK254, HB⟩ := hcut
            cases kq with
            | zero => exact absurd HA.out (by simp [antiquarylaw27_GraphOfAllIsSure.j1])
            | succ kj24 =>
              have H := HA.out
              clear HA
              simp only [antiquarylaw27_GraphOfAllIsSure.j1] at H
              by_cases c39 : x115_24 = true
              · subst c39
                have H1 : (some false) = some r := by rw [if_pos rfl] at H; exact H
                clear H
                have H := H1
                clear H1
                obtain rfl := Option.some.inj H
                go_wp2
                go_ret
                exact ⟨by first | rfl | (simp [errW_none, errW_some] <;> rfl) | (simp [*, errW_none, errW_some] <;> rfl), by repeat (first | (with_reducible first | exact HB.out | apply below_alloc | apply pw_below_drewN | apply below_drew1 | refine below_set ?_ GE254.out) | exact HB.out)⟩
              · replace c39 := Bool.eq_false_iff.mpr c39
                subst c39
                have H1 : (antiquarylaw27_GraphOfAllIsSure.l0 kj24 a0 l1 l2 a4 (Int.tmod (wrap64 (a3)) (l1.length : Int)) 0 t250 ([] : List (S39))) = some r := by rw [if_neg (show ¬ (false = true) by decide)] at H; exact H
                clear H
                have H := H1
                clear H1
                have H' := Aside0.mk H
                clear H
                go_wp2_with (first | ((with_reducible refine gate_dst (N := 22) rfl ?_); (try (refine gate_guard (by rfl) ?_; dsimp only)); refine box_event ?hg (N := 22) ?hd (cs := #[.slice none 0 0]) (t := 25) ?hr ?_; (case hd => rfl); (case hg => rfl); (case hr => first | (go_simp; done) | (go_simp; rfl)); intro gb265 hg w40 hbox hb; have n0_ := Aside0.mk (Kd.N_below (Kd.N_elderB (by (with_reducible repeat (first | apply Kd.N_alloc | apply Kd.N_drewN | apply Kd.N_drew)); exact HO_255000.out) gb265 (Nat.le_of_eq hg.symm)) hb); have n1_ := Aside0.mk (blk_below (g := gb254) (o := .cells #[.slice Ao28 t250.length co28] 25 (0, 0)) (by (with_reducible repeat (first | refine blk_drewN ?_ _ | refine blk_drew ?_ | refine blk_alloc ?_ _)); exact BK254.out) hb); have n2_ := Aside0.mk (below_step (by repeat (first | (with_reducible first | exact HB.out | apply below_alloc | apply pw_below_drewN | apply below_drew1 | refine below_set ?_ GE254.out) | exact HB.out)) hb); have n3_ := Aside0.mk (hbox); have n4_ := Aside0.mk ((by rw [hg]; exact (below_size (by repeat (first | (with_reducible first | exact HB.out | apply below_alloc | apply pw_below_drewN | apply below_drew1 | refine below_set ?_ GE254.out) | exact HB.out))) : w.heap.size ≤ gb265)); have n5_ := Aside0.mk ((by rw [hg]; exact (below_size (by repeat (first | (with_reducible first | exact HB.out | apply below_alloc | apply pw_below_drewN | apply below_drew1 | refine below_set ?_ GE254.out) | exact HB.out))) : w.heap.size ≤ gb265)); have n6_ := Aside0.mk ((by rw [hg]; exact Nat.ne_of_lt (blk_lt (g := gb254) (o := .cells #[.slice Ao28 t250.length co28] 25 (0, 0)) (by (with_reducible repeat (first | refine blk_drewN ?_ _ | refine blk_drew ?_ | refine blk_alloc ?_ _)); exact BK254.out)) : gb254 ≠ gb265)); have n7_ := Aside0.mk ((by rw [hg]; exact Nat.ne_of_gt (blk_lt (g := gb254) (o := .cells #[.slice Ao28 t250.length co28] 25 (0, 0)) (by (with_reducible repeat (first | refine blk_drewN ?_ _ | refine blk_drew ?_ | refine blk_alloc ?_ _)); exact BK254.out)) : gb265 ≠ gb254)); clear HO_255000; clear BK254; clear HB; have HO_255000 := n0_; have BK254 := n1_; have HB := n2_; have BK265 := n3_; have GW265 := n4_; have GE265 := n5_; have NB254_265 := n6_; have NB265_254 := n7_; clear n0_ n1_ n2_ n3_ n4_ n5_ n6_ n7_; clear hb hbox hg; have hnb41 := NB265_254.out; have hnc41 := NB254_265.out; have hcz42_0 : w40.cell? ⟨gb265, 0, none⟩ = some (.slice none 0 0) := (blk_cell BK265.out 0).trans rfl; have hfz42_0 := blk_frozen BK265.out 0))
                go_loopg [23] kj24 (fun kq v23 w' => ∃ (x23_3 : Int) (x266000_3 : List (S39)) (u266000 : Value), v23 = .int .i64 x23_3 ∧ Aside0 (antiquarylaw27_GraphOfAllIsSure.l0 kq a0 l1 l2 a4 (Int.tmod (wrap64 (a3)) (l1.length : Int)) x23_3 t250 x266000_3 = some r) ∧ Aside0 (kq ≤ kj24) ∧ Aside0 (Kd.N k39 39 w' w.heap.size (fun k_ => some k_ ≠ (u266000 : Value).ownBlock ∧ k_ ≠ gb254 ∧ k_ ≠ gb265) (.slice Ao28 t250.length co28) t250) ∧ Aside0 (Kd.N k39 39 w' w.heap.size (fun k_ => some k_ ≠ ((.slice Ao28 t250.length co28) : Value).ownBlock ∧ k_ ≠ gb254 ∧ k_ ≠ gb265) u266000 x266000_3) ∧ Aside0 (w'.heap[gb254]? = some (.cells #[(.slice Ao28 t250.length co28)] 25 (0, 0))) ∧ Aside0 (w'.heap[gb265]? = some (.cells #[u266000] 25 (0, 0))) ∧ Aside0 (Below w.heap.size w w'))
                case atStart => exact ⟨(0), (([] : List (S39))), (.slice none 0 0), (by first | rfl | (simp; done) | (simp [*]; done)), H', ⟨Nat.le_refl _⟩, ⟨by (with_reducible repeat (first | apply Kd.N_alloc | apply Kd.N_drewN | apply Kd.N_drew)); exact Kd.N_mono (Kd.N_far (p := ⟨gb265, 0, none⟩) (Kd.N_mono HO_255000.out (fun k_ hk => (⟨hk, hk.2⟩ : _ ∧ k_ ≠ gb265))) (fun _ hk => hk.2) (.slice none 0 0)) (fun _ hk => ⟨(by simp [Value.ownBlock]), ⟨hk.1.1, hk.1.2⟩⟩)⟩, ⟨by first | exact Kd.S_nil _ _ _ _ _ | exact Kd.N_nil _ _ _ _ _ | exact Kd.V_nil _ _ _ _ _ | exact Kd.Q_nil _ _ _ _ _ | exact Kd.R_nil _ _ _ _ _⟩, ⟨by (with_reducible repeat (first | refine blk_drewN ?_ _ | refine blk_drew ?_ | refine blk_alloc ?_ _)); refine blk_far ?_ NB254_265.out _; (with_reducible repeat (first | refine blk_drewN ?_ _ | refine blk_drew ?_ | refine blk_alloc ?_ _)); exact BK254.out⟩, ⟨by (with_reducible repeat (first | refine blk_drewN ?_ _ | refine blk_drew ?_ | refine blk_alloc ?_ _)); refine blk_put (cs := #[.slice none 0 0]) ?_ 0 _ rfl; (with_reducible repeat (first | refine blk_drewN ?_ _ | refine blk_drew ?_ | refine blk_alloc ?_ _)); exact BK265.out⟩, ⟨by repeat (first | (with_reducible first | exact HB.out | apply below_alloc | apply pw_below_drewN | apply below_drew1 | refine below_set ?_ GE254.out | refine below_set ?_ GE265.out) | exact HB.out)⟩⟩
                case round =>
                  clear H'
                  try clear c1
                  try clear c2
                  try clear p2
                  try clear q2
                  try clear hx2
                  try clear qi2
                  try clear c3
                  try clear c4
                  try clear c5
                  try clear c6
                  try clear p6
                  try clear c9
                  try clear c10
                  try clear c11
                  try clear c13
                  try clear c14
                  try clear c14b0
                  try clear c14b1
                  try clear c16
                  try clear c17
                  try clear c17b0
                  try clear c18
                  try clear c21
                  try clear c21b0
                  try clear c21b1
                  try clear c21b2
                  try clear c24
                  try clear p24
                  try clear q24
                  try clear hx24
                  try clear qi24
                  try clear c33
                  try clear c33b0
                  try clear c33b1
                  try clear c34
                  try clear c34b0
                  try clear c34b1
                  try clear c35
                  try clear c35b0
                  try clear c35b1
                  try clear c36
                  try clear c36b0
                  try clear c36b1
                  try clear c39
                  try clear c41
                  try clear hcz29_0
                  try clear hcz31_0
                  try clear hcz42_0
                  try clear hfz29_0
                  try clear hfz31_0
                  try clear hfz42_0
                  try clear hx247_0
                  try clear p2
                  try clear p24
                  try clear p247
                  try clear p6
                  try clear q2
                  try clear q24
                  try clear q247
                  obtain ⟨x23_3, x266000_3, u266000, rfl, HA, HK3, HO_255000, HO_266000, BK254, BK265, HB⟩ := hrel
                  cases gk with
                  | zero => exact absurd HA.out (by simp [antiquarylaw27_GraphOfAllIsSure.l0])
                  | succ k3 =>
                    have H := HA.out
                    clear HA
                    simp only [antiquarylaw27_GraphOfAllIsSure.l0] at H
                    by_cases c43 : x23_3 < (t250.length : Int)
                    · rw [if_pos c43] at H
                      have c43b0 : decide (x23_3 < (t250.length : Int)) = true := decide_eq_true c43
                      clear c43
                      by_cases c44 : 0 ≤ x23_3
                      · rw [if_pos c44] at H
                        have c44b0 : decide (0 ≤ x23_3) = true := decide_eq_true c44
                        clear c44
                        by_cases c45 : x266000_3.length < 4398046511104
                        · rw [if_pos c45] at H
                          have LMc45 := Aside0.mk c45
                          clear c45
                          obtain ⟨y267, hy267⟩ : ∃ y_ : List (S39), y_ = (x266000_3 ++ [(⟨134217728, (rd_T39 t250 x23_3).f1⟩ : S39)]) := ⟨_, rfl⟩
                          replace H : (antiquarylaw27_GraphOfAllIsSure.l0 k3 a0 l1 l2 a4 (Int.tmod (wrap64 (a3)) (l1.length : Int)) (wrap64 (x23_3 + 1)) t250 y267) = some r := by first | (rw [hy267]; with_reducible exact H) | (have H2_ := (Option.bind_some _ _).symm.trans H; rw [hy267]; with_reducible exact H2_) | (have H2_ := (Option.bind_some _ _).symm.trans H; with_reducible exact H2_) | with_reducible exact H | (rw [hy267]; exact H) | exact H
                          have Ny267 := Aside0.mk hy267
                          clear hy267
                          have H' := Aside0.mk H
                          clear H
                          have hnb46 := NB254_265.out
                          have hnc46 := NB265_254.out
                          have hcz47_0 : wr.cell? ⟨gb254, 0, none⟩ = some (.slice Ao28 t250.length co28) := (blk_cell BK254.out 0).trans rfl
                          have hfz47_0 := blk_frozen BK254.out 0
                          try go_wp2
                          have n0_ := Aside0.mk (Kd.N_drew HO_255000.out)
                          have n1_ := Aside0.mk (Kd.N_drew HO_266000.out)
                          have n2_ := Aside0.mk (blk_drew BK254.out)
                          have n3_ := Aside0.mk (blk_drew BK265.out)
                          have n4_ := Aside0.mk (below_drew1 HB.out)
                          clear HO_255000
                          clear HO_266000
                          clear BK254
                          clear BK265
                          clear HB
                          have HO_255000 := n0_
                          have HO_266000 := n1_
                          have BK254 := n2_
                          have BK265 := n3_
                          have HB := n4_
                          clear n0_ n1_ n2_ n3_ n4_
                          have p266 : 0 ≤ (x23_3 : Int) := of_decide_eq_true (by first | (with_reducible assumption) | assumption)
                          have q266 : x23_3 < (t250.length : Int) := of_decide_eq_true (by first | (with_reducible assumption) | assumption)
                          obtain ⟨ad266, A266_1, c266_1, e266, hx266_0, hx266_1, hl266_1, hi266_1⟩ := at_T39 (Kd.N_reads' HO_255000.out).2.2 x23_3 p266 q266
                          cases e266
                          obtain ⟨ce266, hce266, hMe266, hcc266⟩ := Kd.N_get HO_255000.out z39 x23_3 p266 (by first | exact q266 | exact of_decide_eq_true (by first | (with_reducible assumption) | assumption) | (have e_ := (Kd.N_reads' HO_255000.out).1; omega))
                          obtain ⟨ua266_1, uc266_1, rfl, ul266_1, ge266_1⟩ := k39_openF hMe266
                          have hv266_1 := hcc266 1 _ rfl
                          rw [add_field _ _ 1 (by omega)] at hv266_1
                          replace hv266_1 := Option.some.inj (hv266_1.symm.trans hx266_1)
                          injection hv266_1 with hva_ hvn_ hvc_
                          rw [hva_] at ge266_1
                          rw [hvc_] at ul266_1
                          have HL266_1 := Aside0.mk (show Kd.V (Kd.int .i64) 3 _ w.heap.size _ _ ((rd_T39 t250 x23_3).f1) from Kd.V_mk ul266_1 ge266_1)
                          clear hva_ hvn_ hvc_ ge266_1 ul266_1
                          clear hcc266 hce266
                          have HR266_1 := Aside0.mk hi266_1
                          have HC266_1 := Aside0.mk hl266_1
                          clear hi266_1 hl266_1
                          replace p266 := eq_true p266
                          replace q266 := eq_true q266
                          refine start_ (n := 13) (S := fun w' => w'.cell? ⟨gb265, 0, none⟩ = some (u266000) ∧ w'.cell? ⟨gb254, 0, none⟩ = some (.slice (some ad266) t250.length co28) ∧ w'.cell? (ad266.add ((x23_3).toNat * 2)) = some (.int .i64 ((rd_T39 t250 x23_3).f0)) ∧ w'.cell? ⟨(ad266.add ((x23_3).toNat * 2)).block, (ad266.add ((x23_3).toNat * 2)).off + 1, none⟩ = some (.slice A266_1 ((rd_T39 t250 x23_3).f1).length c266_1)) (ds := [10, 12]) #[false, false, false, false, false, false, false, false, false, false, false, false, false] (by kernel_rfl) rfl rfl ⟨(blk_cell BK265.out 0).trans rfl, (blk_cell BK254.out 0).trans rfl, hx266_0, hx266_1⟩ (fun hHeld => ?_); refine with_tabW antiquarylaw27_GraphOfAllIsSure.tab13 antiquarylaw27_GraphOfAllIsSure.bits13 (fun HT_ HW_ => ?_)
                          generalize wr.drew = w48 at HO_255000 HO_266000 BK254 BK265 HB HL266_1 HR266_1 hx266_0 hx266_1 hHeld ⊢
                          refine pure_ (i := 0) (N := some 124) (v := ?_) (a' := ?_) #[true, false, false, false, false, false, false, false, false, false, false, false, false] rfl rfl (any_of HT_.out (by kernel_rfl)) (fun _ _ _ h => h) (Or.inl ⟨by rfl, ?_⟩) ?_ ?_
                          rotate_left
                          · intro w'
                            go_simp
                            with_reducible rfl
                          rotate_left
                          · simp only [Act.put, List.setIfInBounds_toArray, List.set_cons_zero, List.set_cons_succ, i64_w, i32_w]
                            rfl
                          refine pure_ (i := 2) (N := some 126) (v := ?_) (a' := ?_) #[true, false, true, false, false, false, false, false, false, false, false, false, false] rfl rfl (any_of HT_.out (by kernel_rfl)) (fun _ _ _ h => h) (Or.inl ⟨by rfl, ?_⟩) ?_ ?_
                          rotate_left
                          · intro w'
                            go_simp
                            with_reducible rfl
                          rotate_left
                          · simp only [Act.put, List.setIfInBounds_toArray, List.set_cons_zero, List.set_cons_succ, i64_w, i32_w]
                            rfl
                          refine pure_ (i := 4) (N := some 128) (v := ?_) (a' := ?_) #[true, false, true, false, true, false, false, false, false, false, false, false, false] rfl rfl (any_of HT_.out (by kernel_rfl)) (fun _ _ _ h => h) (Or.inl ⟨by rfl, ?_⟩) ?_ ?_
                          rotate_left
                          · intro w'
                            go_simp
                            with_reducible rfl
                          rotate_left
                          · simp only [Act.put, List.setIfInBounds_toArray, List.set_cons_zero, List.set_cons_succ, i64_w, i32_w]
                            rfl
                          refine take_ (i := 1) (N := some 125) (v := ?_) (a' := ?_) #[true, true, true, false, true, false, false, false, false, false, false, false, false] rfl rfl (take_ofW HT_.out HW_.out (by kernel_rfl)) (fun _ _ _ h => h) (Or.inl ⟨by rfl, ?_⟩) hHeld ?_ ?_
                          rotate_left
                          · rintro w' ⟨s0, s1, s2, s3⟩
                            go_simp
                            with_reducible rfl
                          rotate_left
                          · simp only [Act.put, List.setIfInBounds_toArray, List.set_cons_zero, List.set_cons_succ, i64_w, i32_w]
                            rfl
                          refine take_ (i := 3) (N := some 127) (v := ?_) (a' := ?_) #[true, true, true, true, true, false, false, false, false, false, false, false, false] rfl rfl (take_ofW HT_.out HW_.out (by kernel_rfl)) (fun _ _ _ h => h) (Or.inl ⟨by rfl, ?_⟩) hHeld ?_ ?_
                          rotate_left
                          · rintro w' ⟨s0, s1, s2, s3⟩
                            go_simp
                            with_reducible rfl
                          rotate_left
                          · simp only [Act.put, List.setIfInBounds_toArray, List.set_cons_zero, List.set_cons_succ, i64_w, i32_w]
                            rfl
                          refine pure_ (i := 5) (N := some 129) (v := ?_) (a' := ?_) #[true, true, true, true, true, true, false, false, false, false, false, false, false] rfl rfl (any_of HT_.out (by kernel_rfl)) (fun _ _ _ h => h) (Or.inl ⟨by rfl, ?_⟩) ?_ ?_
                          rotate_left
                          · intro w'
                            go_simp
                            with_reducible rfl
                          rotate_left
                          · simp only [Act.put, List.setIfInBounds_toArray, List.set_cons_zero, List.set_cons_succ, i64_w, i32_w]
                            rfl
                          refine pure_ (i := 6) (N := some 130) (v := ?_) (a' := ?_) #[true, true, true, true, true, true, true, false, false, false, false, false, false] rfl rfl (any_of HT_.out (by kernel_rfl)) (fun _ _ _ h => h) (Or.inl ⟨by rfl, ?_⟩) ?_ ?_
                          rotate_left
                          · intro w'
                            go_simp
                            with_reducible rfl
                          rotate_left
                          · simp only [Act.put, List.setIfInBounds_toArray, List.set_cons_zero, List.set_cons_succ, i64_w, i32_w]
                            rfl
                          refine take_ (i := 7) (N := some 131) (v := ?_) (a' := ?_) #[true, true, true, true, true, true, true, true, false, false, false, false, false] rfl rfl (take_ofW HT_.out HW_.out (by kernel_rfl)) (fun _ _ _ h => h) (Or.inl ⟨by rfl, ?_⟩) hHeld ?_ ?_
                          rotate_left
                          · rintro w' ⟨s0, s1, s2, s3⟩
                            go_simp
                            with_reducible rfl
                          rotate_left
                          · simp only [Act.put, List.setIfInBounds_toArray, List.set_cons_zero, List.set_cons_succ, i64_w, i32_w]
                            rfl
                          refine pure_ (i := 8) (N := some 132) (v := ?_) (a' := ?_) #[true, true, true, true, true, true, true, true, true, false, false, false, false] rfl rfl (any_of HT_.out (by kernel_rfl)) (fun _ _ _ h => h) (Or.inl ⟨by rfl, ?_⟩) ?_ ?_
                          rotate_left
                          · intro w'
                            go_simp
                            with_reducible rfl
                          rotate_left
                          · simp only [Act.put, List.setIfInBounds_toArray, List.set_cons_zero, List.set_cons_succ, i64_w, i32_w]
                            rfl
                          refine one_ (i := 9) (N := some 133) #[true, true, true, true, true, true, true, true, true, true, false, false, false] rfl rfl (one_of HT_.out (by kernel_rfl)) (by decide) (fun K hK => ?_)
                          refine value_ (w1 := ?_) (v := ?_) (by rfl) rfl ?_ ?_
                          rotate_left 2
                          · go_simp
                            constructor
                            · rfl
                            · rfl
                          refine hK.out _ _ ⟨(blk_cell (blk_alloc BK265.out _) 0).trans rfl, (blk_cell (blk_alloc BK254.out _) 0).trans rfl, (World.cell?_alloc_lt _ _ _ (World.block_lt_of_cell? _ _ (hHeld.2.2.1))).trans (hHeld.2.2.1), (World.cell?_alloc_lt _ _ _ (World.block_lt_of_cell? _ _ (hHeld.2.2.2))).trans (hHeld.2.2.2)⟩ (fun hHeld => ?_)
                          clear hK K
                          refine norm_ (a' := ?_) ?_ ?_
                          rotate_left
                          · show Act.put _ (some 133) _ = _
                            simp only [Act.put, List.setIfInBounds_toArray, List.set_cons_zero, List.set_cons_succ, i64_w, i32_w]
                            rfl
                          refine last_ (i := 10) (N := some 134) #[true, true, true, true, true, true, true, true, true, true, true, false, false] rfl rfl (one_of HT_.out (by kernel_rfl)) (by decide) (fun K hK => ?_)
                          refine Kd.N_append_step k39 (w0 := w) w.heap.size (by rfl) (.tmp 125) (.tmp 133) 23 39 (.agg #[(.int .i64 0), (.slice none 0 0)]) 32 rfl Try.underlying23 info39 rfl (by decide) (by omega) u266000 x266000_3 (⟨134217728, (rd_T39 t250 x23_3).f1⟩ : S39) [.int .i64 134217728, .slice A266_1 ((rd_T39 t250 x23_3).f1).length c266_1] (fun k_ => some k_ ≠ (.slice (some ad266) t250.length co28 : Value).ownBlock ∧ k_ ≠ gb254 ∧ k_ ≠ gb265) (fun k_ => ((fun k_ => some k_ ≠ (.slice (some ad266) t250.length co28 : Value).ownBlock ∧ k_ ≠ gb254 ∧ k_ ≠ gb265)) k_ ∧ some k_ ≠ (u266000 : Value).ownBlock) rfl rfl ?aP (fun _ hk => hk) ?aF ?aO ?aB ?aS ?aL ?_
                          (case aP => exact (k39_mkF _ _ (⟨134217728, (rd_T39 t250 x23_3).f1⟩ : S39) (Kd.V_reads' (Kd.V_mono (ok' := (fun k_ => ((fun k_ => some k_ ≠ (.slice (some ad266) t250.length co28 : Value).ownBlock ∧ k_ ≠ gb254 ∧ k_ ≠ gb265)) k_ ∧ some k_ ≠ (u266000 : Value).ownBlock)) (HL266_1.out) (fun k_ hk => ⟨⟨hk.2, ⟨hk.1.2.1, hk.1.2.2⟩⟩, hk.1.1⟩))).2.1 (Kd.V_F (Kd.V_mono (ok' := (fun k_ => ((fun k_ => some k_ ≠ (.slice (some ad266) t250.length co28 : Value).ownBlock ∧ k_ ≠ gb254 ∧ k_ ≠ gb265)) k_ ∧ some k_ ≠ (u266000 : Value).ownBlock)) (HL266_1.out) (fun k_ hk => ⟨⟨hk.2, ⟨hk.1.2.1, hk.1.2.2⟩⟩, hk.1.1⟩)))))
                          (case aB => exact (by repeat (first | (with_reducible first | exact HB.out | apply below_alloc | apply pw_below_drewN | apply below_drew1 | refine below_set ?_ GE254.out | refine below_set ?_ GE265.out) | exact HB.out)))
                          (case aF => exact (fun k_ hk => ⟨Kd.fresh' (Kd.N_lt (by (with_reducible repeat (first | apply Kd.N_alloc | apply Kd.N_drewN | apply Kd.N_drew)); exact HO_255000.out)) k_ hk, Kd.freshB (g := gb254) (o := .cells #[.slice (some ad266) t250.length co28] 25 (0, 0)) (by (with_reducible repeat (first | refine blk_drewN ?_ _ | refine blk_drew ?_ | refine blk_alloc ?_ _)); exact BK254.out) k_ hk, Kd.freshB (g := gb265) (o := .cells #[u266000] 25 (0, 0)) (by (with_reducible repeat (first | refine blk_drewN ?_ _ | refine blk_drew ?_ | refine blk_alloc ?_ _)); exact BK265.out) k_ hk⟩))
                          (case aO => exact (by (with_reducible repeat (first | apply Kd.N_alloc | apply Kd.N_drewN | apply Kd.N_drew)); exact HO_266000.out))
                          (case aS => exact (below_size (by repeat (first | (with_reducible first | exact HB.out | apply below_alloc | apply pw_below_drewN | apply below_drew1 | refine below_set ?_ GE254.out | refine below_set ?_ GE265.out) | exact HB.out))))
                          (case aL => have := LMc45.out; omega)
                          intro v268 w49 ho hb hg hat
                          rw [← Ny267.out] at ho
                          have n0_ := Aside0.mk (Kd.N_afterv (ok := (fun k_ => k_ ≠ gb254 ∧ k_ ≠ gb265)) (by (with_reducible repeat (first | apply Kd.N_alloc | apply Kd.N_drewN | apply Kd.N_drew)); exact Kd.N_mono HO_255000.out (fun _ hk => ⟨⟨hk.2.1, hk.2.2⟩, hk.1⟩)) hg hat)
                          have n1_ := Aside0.mk (blk_grown (g := gb254) (o := .cells #[.slice (some ad266) t250.length co28] 25 (0, 0)) (by (with_reducible repeat (first | refine blk_drewN ?_ _ | refine blk_drew ?_ | refine blk_alloc ?_ _)); exact BK254.out) hg (Kd.N_ne HO_266000.out BK254.out (by decide)))
                          have n2_ := Aside0.mk (blk_grown (g := gb265) (o := .cells #[u266000] 25 (0, 0)) (by (with_reducible repeat (first | refine blk_drewN ?_ _ | refine blk_drew ?_ | refine blk_alloc ?_ _)); exact BK265.out) hg (Kd.N_ne HO_266000.out BK265.out (by decide)))
                          have n3_ := Aside0.mk (Kd.V_afterv (ok := (fun k_ => some k_ ≠ (.slice (some ad266) t250.length co28 : Value).ownBlock ∧ k_ ≠ gb254 ∧ k_ ≠ gb265)) (by (with_reducible repeat (first | apply Kd.V_alloc | apply Kd.V_drewN | apply Kd.V_drew)); exact Kd.V_mono HL266_1.out (fun _ hk => ⟨⟨hk.2, ⟨hk.1.2.1, hk.1.2.2⟩⟩, hk.1.1⟩)) hg hat)
                          have n4_ := Aside0.mk (hb)
                          have n5_ := Aside0.mk (ho)
                          clear HO_255000
                          clear BK254
                          clear BK265
                          clear HL266_1
                          clear HB
                          clear HO_266000
                          have HO_255000 := n0_
                          have BK254 := n1_
                          have BK265 := n2_
                          have HL266_1 := n3_
                          have HB := n4_
                          have HO269 := n5_
                          clear n0_ n1_ n2_ n3_ n4_ n5_
                          clear ho hb hg hat
                          obtain ⟨Ao50, co50, eo50⟩ := Kd.N_slice HO269.out
                          (first | subst eo50 | (injection eo50 with f1_ f2_ f3_; have f4_ := f1_.symm; have f5_ := f3_.symm; clear f1_ f2_ f3_; subst f4_; subst f5_))
                          refine hK.out _ _ ?_
                          clear hK K
                          refine norm_ (a' := ?_) ?_ ?_
                          rotate_left
                          · show Act.put _ (some 134) _ = _
                            simp only [Act.put, List.setIfInBounds_toArray, List.set_cons_zero, List.set_cons_succ, i64_w, i32_w]
                            rfl
                          refine pure_ (i := 11) (N := some 135) (v := ?_) (a' := ?_) #[true, true, true, true, true, true, true, true, true, true, true, true, false] rfl rfl (any_of HT_.out (by kernel_rfl)) (fun _ _ _ h => h) (Or.inl ⟨by rfl, ?_⟩) ?_ ?_
                          rotate_left
                          · intro w'
                            go_simp
                            with_reducible rfl
                          rotate_left
                          · simp only [Act.put, List.setIfInBounds_toArray, List.set_cons_zero, List.set_cons_succ, i64_w, i32_w]
                            rfl
                          refine last_ (i := 12) (N := none) #[true, true, true, true, true, true, true, true, true, true, true, true, true] rfl rfl (one_of HT_.out (by kernel_rfl)) (by decide) (fun K hK => ?_)
                          have hs51 : w49.cell? ⟨gb265, 0, none⟩ = some (u266000) := (blk_cell BK265.out 0).trans rfl
                          have hfs51 := blk_frozen BK265.out 0
                          have hns51_0 := NB254_265.out
                          have hms51_0 := NB265_254.out
                          refine skip_ (w1 := ?_) (by rfl) rfl ?_ ?_
                          rotate_left
                          · go_simp
                            rfl
                          refine hK.out _ _ ?_
                          clear hK K
                          refine done_ (done_of HT_.out (by kernel_rfl)) ?_
                          try go_wp2
                          go_roundg k3
                          case measure => have := HJ6.out; have := HJ24.out; have := HK3.out; omega
                          case rel => exact ⟨(wrap64 (x23_3 + 1)), (y267), (.slice Ao50 y267.length co50), (by first | rfl | (simp; done) | (simp [*]; done)), H', ⟨by have := HJ6.out; have := HJ24.out; have := HK3.out; omega⟩, ⟨by (with_reducible repeat (first | apply Kd.N_alloc | apply Kd.N_drewN | apply Kd.N_drew)); exact Kd.N_mono (Kd.N_far (p := ⟨gb265, 0, none⟩) (Kd.N_mono HO_255000.out (fun k_ hk => (⟨hk, hk.1.2⟩ : _ ∧ k_ ≠ gb265))) (fun _ hk => hk.2) (.slice Ao50 y267.length co50)) (fun _ hk => ⟨hk.1.2, ⟨hk.1.1.1, hk.1.1.2⟩⟩)⟩, ⟨by (with_reducible repeat (first | apply Kd.N_alloc | apply Kd.N_drewN | apply Kd.N_drew)); exact Kd.N_mono (Kd.N_far (p := ⟨gb265, 0, none⟩) (Kd.N_mono HO269.out (fun k_ hk => (⟨hk, hk.2.2⟩ : _ ∧ k_ ≠ gb265))) (fun _ hk => hk.2) (.slice Ao50 y267.length co50)) (fun _ hk => ⟨hk.1.1, ⟨hk.1.2.1, hk.1.2.2⟩⟩)⟩, ⟨by (with_reducible repeat (first | refine blk_drewN ?_ _ | refine blk_drew ?_ | refine blk_alloc ?_ _)); refine blk_far ?_ NB254_265.out _; (with_reducible repeat (first | refine blk_drewN ?_ _ | refine blk_drew ?_ | refine blk_alloc ?_ _)); exact BK254.out⟩, ⟨by (with_reducible repeat (first | refine blk_drewN ?_ _ | refine blk_drew ?_ | refine blk_alloc ?_ _)); refine blk_put (cs := #[u266000]) ?_ 0 _ rfl; (with_reducible repeat (first | refine blk_drewN ?_ _ | refine blk_drew ?_ | refine blk_alloc ?_ _)); exact BK265.out⟩, ⟨by repeat (first | (with_reducible first | exact HB.out | apply below_alloc | apply pw_below_drewN | apply below_drew1 | refine below_set ?_ GE254.out | refine below_set ?_ GE265.out) | exact HB.out)⟩⟩
                        · rw [if_neg c45] at H
                          exact absurd H (by simp)
                      · rw [if_neg c44] at H
                        exact absurd H (by simp)
                    · rw [if_neg c43] at H
                      have c43b0 : decide (x23_3 < (t250.length : Int)) = false := decide_eq_false c43
                      clear c43
                      replace H := Option.bind_eq_some_iff.mp H
                      obtain ⟨⟨t270, t271⟩, A520, H⟩ := H
                      replace H : ((graph_Within.f a0 l1 x266000_3 l2 (Int.tmod (wrap64 (a3)) (l1.length : Int)) a4).bind fun bt272 => ((antiquarylaw27_sanity.f).bind fun t278 => (if t278 = true then (if t271 = 0 then (if t270 = (-1) then (if bt272.2.2.2 = 0 then (some bt272.2.2.1) else (some false)) else (some false)) else (some false)) else (some false)))) = some r := H
                      have A52 := Aside0.mk A520
                      clear A520
                      replace H := Option.bind_eq_some_iff.mp H
                      obtain ⟨⟨t272, t275, t276, t277⟩, A530, H⟩ := H
                      replace H : ((antiquarylaw27_sanity.f).bind fun t278 => (if t278 = true then (if t271 = 0 then (if t270 = (-1) then (if t277 = 0 then (some t276) else (some false)) else (some false)) else (some false)) else (some false))) = some r := H
                      have A53 := Aside0.mk A530
                      clear A530
                      replace H := Option.bind_eq_some_iff.mp H
                      obtain ⟨t278, A540, H⟩ := H
                      replace H : (if t278 = true then (if t271 = 0 then (if t270 = (-1) then (if t277 = 0 then (some t276) else (some false)) else (some false)) else (some false)) else (some false)) = some r := H
                      have A54 := Aside0.mk A540
                      clear A540
                      by_cases c55 : t278 = true
                      · subst c55
                        have H1 : (if t271 = 0 then (if t270 = (-1) then (if t277 = 0 then (some t276) else (some false)) else (some false)) else (some false)) = some r := by rw [if_pos rfl] at H; exact H
                        clear H
                        have H := H1
                        clear H1
                        by_cases c56 : t271 = 0
                        · rw [if_pos c56] at H
                          have c56b0 : (t271 == 0) = true := beq_iff_eq.mpr c56
                          have c56b1 : (t271 != 0) = false := bne_eq_false_iff_eq.mpr c56
                          clear c56
                          by_cases c57 : t270 = (-1)
                          · rw [if_pos c57] at H
                            have c57b0 : (t270 == (-1)) = true := beq_iff_eq.mpr c57
                            have c57b1 : (t270 != (-1)) = false := bne_eq_false_iff_eq.mpr c57
                            clear c57
                            by_cases c58 : t277 = 0
                            · rw [if_pos c58] at H
                              have c58b0 : (t277 == 0) = true := beq_iff_eq.mpr c58
                              have c58b1 : (t277 != 0) = false := bne_eq_false_iff_eq.mpr c58
                              clear c58
                              obtain rfl := Option.some.inj H
                              have hnb59 := NB254_265.out
                              have hnc59 := NB265_254.out
                              have hcz60_0 : wr.cell? ⟨gb254, 0, none⟩ = some (.slice Ao28 t250.length co28) := (blk_cell BK254.out 0).trans rfl
                              have hfz60_0 := blk_frozen BK254.out 0
                              have hcz61_0 : wr.cell? ⟨gb265, 0, none⟩ = some (u266000) := (blk_cell BK265.out 0).trans rfl
                              have hfz61_0 := blk_frozen BK265.out 0
                              obtain ⟨Ao62, co62, eo62⟩ := Kd.N_slice HO_266000.out
                              subst eo62
                              go_wp2_with (first | ((with_reducible refine gate_callee (f := 18) rfl ?_); refine goesL_ (some 140) rfl rfl Try.func18 (by kernel_rfl) rfl #[.int .i64 a0, .slice A1 l1.length c1, .agg #[.slice Ao62 x266000_3.length co62]] rfl (by (try simp only [List.map_toArray, List.map_cons, List.map_nil]); first | done | rfl | (simp only [List.length_drop, List.length_take]; rfl)) ?_; (with_reducible refine (graph_Check.calls k3 a0 _ _ l1 _ _ x266000_3 t270 t271 _ ?side1 ?side2 ?side3 ?side4 A52.out).mono ?_); (case side1 => repeat (first | exact (Kd.C_below HR1.out HB.out) | (with_reducible refine Kd.C_alloc ?_ _) | (with_reducible refine Kd.C_drewN ?_ _) | (with_reducible refine Kd.C_drew ?_))); (case side2 => exact HC1.out); (case side3 => repeat (first | exact (Kd.N_reads' HO_266000.out).2.2 | (with_reducible refine Kd.C_alloc ?_ _) | (with_reducible refine Kd.C_drewN ?_ _) | (with_reducible refine Kd.C_drew ?_))); (case side4 => exact (Kd.N_reads' HO_266000.out).2.1); rintro e w63 ⟨rfl, hb⟩; refine ⟨_, rfl, ?_⟩; have n0_ := Aside0.mk (Kd.N_below (by (with_reducible repeat (first | apply Kd.N_alloc | apply Kd.N_drewN | apply Kd.N_drew)); exact HO_255000.out) hb); have n1_ := Aside0.mk (Kd.N_below (by (with_reducible repeat (first | apply Kd.N_alloc | apply Kd.N_drewN | apply Kd.N_drew)); exact HO_266000.out) hb); have n2_ := Aside0.mk (blk_below (g := gb254) (o := .cells #[.slice Ao28 t250.length co28] 25 (0, 0)) (by (with_reducible repeat (first | refine blk_drewN ?_ _ | refine blk_drew ?_ | refine blk_alloc ?_ _)); exact BK254.out) hb); have n3_ := Aside0.mk (blk_below (g := gb265) (o := .cells #[.slice Ao62 x266000_3.length co62] 25 (0, 0)) (by (with_reducible repeat (first | refine blk_drewN ?_ _ | refine blk_drew ?_ | refine blk_alloc ?_ _)); exact BK265.out) hb); have n4_ := Aside0.mk (below_step (by repeat (first | (with_reducible first | exact HB.out | apply below_alloc | apply pw_below_drewN | apply below_drew1 | refine below_set ?_ GE254.out | refine below_set ?_ GE265.out) | exact HB.out)) hb); clear HO_255000; clear HO_266000; clear BK254; clear BK265; clear HB; have HO_255000 := n0_; have HO_266000 := n1_; have BK254 := n2_; have BK265 := n3_; have HB := n4_; clear n0_ n1_ n2_ n3_ n4_; (try clear hb); (try clear hb2); (try clear hk); (try clear hi); have hcz64_0 : w63.cell? ⟨gb265, 0, none⟩ = some (.slice Ao62 x266000_3.length co62) := (blk_cell BK265.out 0).trans rfl; have hfz64_0 := blk_frozen BK265.out 0) | ((with_reducible refine gate_callee (f := 12) rfl ?_); refine goesL_ (some 150) rfl rfl Try.func12 (by kernel_rfl) rfl #[.int .i64 a0, .slice A1 l1.length c1, .agg #[.slice Ao62 x266000_3.length co62], .slice A2 l2.length c2, .int .i64 (Int.tmod (wrap64 (a3)) (l1.length : Int)), .int .i64 a4] rfl (by (try simp only [List.map_toArray, List.map_cons, List.map_nil]); first | done | rfl | (simp only [List.length_drop, List.length_take]; rfl)) ?_; (with_reducible refine (graph_Within.calls a0 _ _ l1 _ _ x266000_3 _ _ l2 (Int.tmod (wrap64 (a3)) (l1.length : Int)) a4 t272 t275 t276 t277 _ ?side1 ?side2 ?side3 ?side4 ?side5 ?side6 A53.out).mono ?_); (case side1 => repeat (first | exact (Kd.C_below HR1.out HB.out) | (with_reducible refine Kd.C_alloc ?_ _) | (with_reducible refine Kd.C_drewN ?_ _) | (with_reducible refine Kd.C_drew ?_))); (case side2 => exact HC1.out); (case side3 => repeat (first | exact (Kd.N_reads' HO_266000.out).2.2 | (with_reducible refine Kd.C_alloc ?_ _) | (with_reducible refine Kd.C_drewN ?_ _) | (with_reducible refine Kd.C_drew ?_))); (case side4 => exact (Kd.N_reads' HO_266000.out).2.1); (case side5 => repeat (first | exact (Kd.C_below HR2.out HB.out) | (with_reducible refine Kd.C_alloc ?_ _) | (with_reducible refine Kd.C_drewN ?_ _) | (with_reducible refine Kd.C_drew ?_))); (case side6 => exact HC2.out); rintro e w65 ⟨v273, rfl, ho0, hb⟩; refine ⟨_, rfl, ?_⟩; have n0_ := Aside0.mk (Kd.N_elder' (by (with_reducible repeat (first | apply Kd.N_alloc | apply Kd.N_drewN | apply Kd.N_drew)); exact HO_255000.out) (Kd.R_base ho0) hb); have n1_ := Aside0.mk (Kd.N_elder' (by (with_reducible repeat (first | apply Kd.N_alloc | apply Kd.N_drewN | apply Kd.N_drew)); exact HO_266000.out) (Kd.R_base ho0) hb); have n2_ := Aside0.mk (Kd.R_lower ho0 (below_size (by repeat (first | (with_reducible first | exact HB.out | apply below_alloc | apply pw_below_drewN | apply below_drew1 | refine below_set ?_ GE254.out | refine below_set ?_ GE265.out) | exact HB.out)))); have n3_ := Aside0.mk (blk_below (g := gb254) (o := .cells #[.slice Ao28 t250.length co28] 25 (0, 0)) (by (with_reducible repeat (first | refine blk_drewN ?_ _ | refine blk_drew ?_ | refine blk_alloc ?_ _)); exact BK254.out) hb); have n4_ := Aside0.mk (blk_below (g := gb265) (o := .cells #[.slice Ao62 x266000_3.length co62] 25 (0, 0)) (by (with_reducible repeat (first | refine blk_drewN ?_ _ | refine blk_drew ?_ | refine blk_alloc ?_ _)); exact BK265.out) hb); have n5_ := Aside0.mk (below_step (by repeat (first | (with_reducible first | exact HB.out | apply below_alloc | apply pw_below_drewN | apply below_drew1 | refine below_set ?_ GE254.out | refine below_set ?_ GE265.out) | exact HB.out)) hb); clear HO_255000; clear HO_266000; clear BK254; clear BK265; clear HB; have HO_255000 := n0_; have HO_266000 := n1_; have HO274 := n2_; have BK254 := n3_; have BK265 := n4_; have HB := n5_; clear n0_ n1_ n2_ n3_ n4_ n5_; (try clear hb); (try clear hb2); (try clear hk); (try clear hi); (try clear ho0)) | ((with_reducible refine gate_callee (f := 10) rfl ?_); refine goesL_ (some 155) rfl rfl Try.func10 (by kernel_rfl) rfl #[] rfl (by (try simp only [List.map_toArray, List.map_cons, List.map_nil]); first | done | rfl | (simp only [List.length_drop, List.length_take]; rfl)) ?_; (with_reducible refine (antiquarylaw27_sanity.calls  true _ A54.out).mono ?_); rintro e w66 ⟨rfl, hb⟩; refine ⟨_, rfl, ?_⟩; have n0_ := Aside0.mk (Kd.N_below (by (with_reducible repeat (first | apply Kd.N_alloc | apply Kd.N_drewN | apply Kd.N_drew)); exact HO_255000.out) hb); have n1_ := Aside0.mk (Kd.N_below (by (with_reducible repeat (first | apply Kd.N_alloc | apply Kd.N_drewN | apply Kd.N_drew)); exact HO_266000.out) hb); have n2_ := Aside0.mk (Kd.R_below (by (with_reducible repeat (first | apply Kd.R_alloc | apply Kd.R_drewN | apply Kd.R_drew)); exact HO274.out) hb); have n3_ := Aside0.mk (blk_below (g := gb254) (o := .cells #[.slice Ao28 t250.length co28] 25 (0, 0)) (by (with_reducible repeat (first | refine blk_drewN ?_ _ | refine blk_drew ?_ | refine blk_alloc ?_ _)); exact BK254.out) hb); have n4_ := Aside0.mk (blk_below (g := gb265) (o := .cells #[.slice Ao62 x266000_3.length co62] 25 (0, 0)) (by (with_reducible repeat (first | refine blk_drewN ?_ _ | refine blk_drew ?_ | refine blk_alloc ?_ _)); exact BK265.out) hb); have n5_ := Aside0.mk (below_step (by repeat (first | (with_reducible first | exact HB.out | apply below_alloc | apply pw_below_drewN | apply below_drew1 | refine below_set ?_ GE254.out | refine below_set ?_ GE265.out) | exact HB.out)) hb); clear HO_255000; clear HO_266000; clear HO274; clear BK254; clear BK265; clear HB; have HO_255000 := n0_; have HO_266000 := n1_; have HO274 := n2_; have BK254 := n3_; have BK265 := n4_; have HB := n5_; clear n0_ n1_ n2_ n3_ n4_ n5_; (try clear hb); (try clear hb2); (try clear hk); (try clear hi)))
                              go_ret
                              exact ⟨by first | rfl | (simp [errW_none, errW_some] <;> rfl) | (simp [*, errW_none, errW_some] <;> rfl), by repeat (first | (with_reducible first | exact HB.out | apply below_alloc | apply pw_below_drewN | apply below_drew1 | refine below_set ?_ GE254.out | refine below_set ?_ GE265.out) | exact HB.out)⟩
                            · rw [if_neg c58] at H
                              have c58b0 : (t277 == 0) = false := beq_eq_false_iff_ne.mpr c58
                              have c58b1 : (t277 != 0) = true := bne_iff_ne.mpr c58
                              obtain rfl := Option.some.inj H
                              have hnb67 := NB254_265.out
                              have hnc67 := NB265_254.out
                              have hcz68_0 : wr.cell? ⟨gb254, 0, none⟩ = some (.slice Ao28 t250.length co28) := (blk_cell BK254.out 0).trans rfl
                              have hfz68_0 := blk_frozen BK254.out 0
                              have hcz69_0 : wr.cell? ⟨gb265, 0, none⟩ = some (u266000) := (blk_cell BK265.out 0).trans rfl
                              have hfz69_0 := blk_frozen BK265.out 0
                              obtain ⟨Ao70, co70, eo70⟩ := Kd.N_slice HO_266000.out
                              subst eo70
                              go_wp2_with (first | ((with_reducible refine gate_callee (f := 18) rfl ?_); refine goesL_ (some 140) rfl rfl Try.func18 (by kernel_rfl) rfl #[.int .i64 a0, .slice A1 l1.length c1, .agg #[.slice Ao70 x266000_3.length co70]] rfl (by (try simp only [List.map_toArray, List.map_cons, List.map_nil]); first | done | rfl | (simp only [List.length_drop, List.length_take]; rfl)) ?_; (with_reducible refine (graph_Check.calls k3 a0 _ _ l1 _ _ x266000_3 t270 t271 _ ?side1 ?side2 ?side3 ?side4 A52.out).mono ?_); (case side1 => repeat (first | exact (Kd.C_below HR1.out HB.out) | (with_reducible refine Kd.C_alloc ?_ _) | (with_reducible refine Kd.C_drewN ?_ _) | (with_reducible refine Kd.C_drew ?_))); (case side2 => exact HC1.out); (case side3 => repeat (first | exact (Kd.N_reads' HO_266000.out).2.2 | (with_reducible refine Kd.C_alloc ?_ _) | (with_reducible refine Kd.C_drewN ?_ _) | (with_reducible refine Kd.C_drew ?_))); (case side4 => exact (Kd.N_reads' HO_266000.out).2.1); rintro e w71 ⟨rfl, hb⟩; refine ⟨_, rfl, ?_⟩; have n0_ := Aside0.mk (Kd.N_below (by (with_reducible repeat (first | apply Kd.N_alloc | apply Kd.N_drewN | apply Kd.N_drew)); exact HO_255000.out) hb); have n1_ := Aside0.mk (Kd.N_below (by (with_reducible repeat (first | apply Kd.N_alloc | apply Kd.N_drewN | apply Kd.N_drew)); exact HO_266000.out) hb); have n2_ := Aside0.mk (blk_below (g := gb254) (o := .cells #[.slice Ao28 t250.length co28] 25 (0, 0)) (by (with_reducible repeat (first | refine blk_drewN ?_ _ | refine blk_drew ?_ | refine blk_alloc ?_ _)); exact BK254.out) hb); have n3_ := Aside0.mk (blk_below (g := gb265) (o := .cells #[.slice Ao70 x266000_3.length co70] 25 (0, 0)) (by (with_reducible repeat (first | refine blk_drewN ?_ _ | refine blk_drew ?_ | refine blk_alloc ?_ _)); exact BK265.out) hb); have n4_ := Aside0.mk (below_step (by repeat (first | (with_reducible first | exact HB.out | apply below_alloc | apply pw_below_drewN | apply below_drew1 | refine below_set ?_ GE254.out | refine below_set ?_ GE265.out) | exact HB.out)) hb); clear HO_255000; clear HO_266000; clear BK254; clear BK265; clear HB; have HO_255000 := n0_; have HO_266000 := n1_; have BK254 := n2_; have BK265 := n3_; have HB := n4_; clear n0_ n1_ n2_ n3_ n4_; (try clear hb); (try clear hb2); (try clear hk); (try clear hi); have hcz72_0 : w71.cell? ⟨gb265, 0, none⟩ = some (.slice Ao70 x266000_3.length co70) := (blk_cell BK265.out 0).trans rfl; have hfz72_0 := blk_frozen BK265.out 0) | ((with_reducible refine gate_callee (f := 12) rfl ?_); refine goesL_ (some 150) rfl rfl Try.func12 (by kernel_rfl) rfl #[.int .i64 a0, .slice A1 l1.length c1, .agg #[.slice Ao70 x266000_3.length co70], .slice A2 l2.length c2, .int .i64 (Int.tmod (wrap64 (a3)) (l1.length : Int)), .int .i64 a4] rfl (by (try simp only [List.map_toArray, List.map_cons, List.map_nil]); first | done | rfl | (simp only [List.length_drop, List.length_take]; rfl)) ?_; (with_reducible refine (graph_Within.calls a0 _ _ l1 _ _ x266000_3 _ _ l2 (Int.tmod (wrap64 (a3)) (l1.length : Int)) a4 t272 t275 t276 t277 _ ?side1 ?side2 ?side3 ?side4 ?side5 ?side6 A53.out).mono ?_); (case side1 => repeat (first | exact (Kd.C_below HR1.out HB.out) | (with_reducible refine Kd.C_alloc ?_ _) | (with_reducible refine Kd.C_drewN ?_ _) | (with_reducible refine Kd.C_drew ?_))); (case side2 => exact HC1.out); (case side3 => repeat (first | exact (Kd.N_reads' HO_266000.out).2.2 | (with_reducible refine Kd.C_alloc ?_ _) | (with_reducible refine Kd.C_drewN ?_ _) | (with_reducible refine Kd.C_drew ?_))); (case side4 => exact (Kd.N_reads' HO_266000.out).2.1); (case side5 => repeat (first | exact (Kd.C_below HR2.out HB.out) | (with_reducible refine Kd.C_alloc ?_ _) | (with_reducible refine Kd.C_drewN ?_ _) | (with_reducible refine Kd.C_drew ?_))); (case side6 => exact HC2.out); rintro e w73 ⟨v273, rfl, ho0, hb⟩; refine ⟨_, rfl, ?_⟩; have n0_ := Aside0.mk (Kd.N_elder' (by (with_reducible repeat (first | apply Kd.N_alloc | apply Kd.N_drewN | apply Kd.N_drew)); exact HO_255000.out) (Kd.R_base ho0) hb); have n1_ := Aside0.mk (Kd.N_elder' (by (with_reducible repeat (first | apply Kd.N_alloc | apply Kd.N_drewN | apply Kd.N_drew)); exact HO_266000.out) (Kd.R_base ho0) hb); have n2_ := Aside0.mk (Kd.R_lower ho0 (below_size (by repeat (first | (with_reducible first | exact HB.out | apply below_alloc | apply pw_below_drewN | apply below_drew1 | refine below_set ?_ GE254.out | refine below_set ?_ GE265.out) | exact HB.out)))); have n3_ := Aside0.mk (blk_below (g := gb254) (o := .cells #[.slice Ao28 t250.length co28] 25 (0, 0)) (by (with_reducible repeat (first | refine blk_drewN ?_ _ | refine blk_drew ?_ | refine blk_alloc ?_ _)); exact BK254.out) hb); have n4_ := Aside0.mk (blk_below (g := gb265) (o := .cells #[.slice Ao70 x266000_3.length co70] 25 (0, 0)) (by (with_reducible repeat (first | refine blk_drewN ?_ _ | refine blk_drew ?_ | refine blk_alloc ?_ _)); exact BK265.out) hb); have n5_ := Aside0.mk (below_step (by repeat (first | (with_reducible first | exact HB.out | apply below_alloc | apply pw_below_drewN | apply below_drew1 | refine below_set ?_ GE254.out | refine below_set ?_ GE265.out) | exact HB.out)) hb); clear HO_255000; clear HO_266000; clear BK254; clear BK265; clear HB; have HO_255000 := n0_; have HO_266000 := n1_; have HO274 := n2_; have BK254 := n3_; have BK265 := n4_; have HB := n5_; clear n0_ n1_ n2_ n3_ n4_ n5_; (try clear hb); (try clear hb2); (try clear hk); (try clear hi); (try clear ho0)) | ((with_reducible refine gate_callee (f := 10) rfl ?_); refine goesL_ (some 155) rfl rfl Try.func10 (by kernel_rfl) rfl #[] rfl (by (try simp only [List.map_toArray, List.map_cons, List.map_nil]); first | done | rfl | (simp only [List.length_drop, List.length_take]; rfl)) ?_; (with_reducible refine (antiquarylaw27_sanity.calls  true _ A54.out).mono ?_); rintro e w74 ⟨rfl, hb⟩; refine ⟨_, rfl, ?_⟩; have n0_ := Aside0.mk (Kd.N_below (by (with_reducible repeat (first | apply Kd.N_alloc | apply Kd.N_drewN | apply Kd.N_drew)); exact HO_255000.out) hb); have n1_ := Aside0.mk (Kd.N_below (by (with_reducible repeat (first | apply Kd.N_alloc | apply Kd.N_drewN | apply Kd.N_drew)); exact HO_266000.out) hb); have n2_ := Aside0.mk (Kd.R_below (by (with_reducible repeat (first | apply Kd.R_alloc | apply Kd.R_drewN | apply Kd.R_drew)); exact HO274.out) hb); have n3_ := Aside0.mk (blk_below (g := gb254) (o := .cells #[.slice Ao28 t250.length co28] 25 (0, 0)) (by (with_reducible repeat (first | refine blk_drewN ?_ _ | refine blk_drew ?_ | refine blk_alloc ?_ _)); exact BK254.out) hb); have n4_ := Aside0.mk (blk_below (g := gb265) (o := .cells #[.slice Ao70 x266000_3.length co70] 25 (0, 0)) (by (with_reducible repeat (first | refine blk_drewN ?_ _ | refine blk_drew ?_ | refine blk_alloc ?_ _)); exact BK265.out) hb); have n5_ := Aside0.mk (below_step (by repeat (first | (with_reducible first | exact HB.out | apply below_alloc | apply pw_below_drewN | apply below_drew1 | refine below_set ?_ GE254.out | refine below_set ?_ GE265.out) | exact HB.out)) hb); clear HO_255000; clear HO_266000; clear HO274; clear BK254; clear BK265; clear HB; have HO_255000 := n0_; have HO_266000 := n1_; have HO274 := n2_; have BK254 := n3_; have BK265 := n4_; have HB := n5_; clear n0_ n1_ n2_ n3_ n4_ n5_; (try clear hb); (try clear hb2); (try clear hk); (try clear hi)))
                              go_ret
                              exact ⟨by first | rfl | (simp [errW_none, errW_some] <;> rfl) | (simp [*, errW_none, errW_some] <;> rfl), by repeat (first | (with_reducible first | exact HB.out | apply below_alloc | apply pw_below_drewN | apply below_drew1 | refine below_set ?_ GE254.out | refine below_set ?_ GE265.out) | exact HB.out)⟩
                          · rw [if_neg c57] at H
                            have c57b0 : (t270 == (-1)) = false := beq_eq_false_iff_ne.mpr c57
                            have c57b1 : (t270 != (-1)) = true := bne_iff_ne.mpr c57
                            obtain rfl := Option.some.inj H
                            have hnb75 := NB254_265.out
                            have hnc75 := NB265_254.out
                            have hcz76_0 : wr.cell? ⟨gb254, 0, none⟩ = some (.slice Ao28 t250.length co28) := (blk_cell BK254.out 0).trans rfl
                            have hfz76_0 := blk_frozen BK254.out 0
                            have hcz77_0 : wr.cell? ⟨gb265, 0, none⟩ = some (u266000) := (blk_cell BK265.out 0).trans rfl
                            have hfz77_0 := blk_frozen BK265.out 0
                            obtain ⟨Ao78, co78, eo78⟩ := Kd.N_slice HO_266000.out
                            subst eo78
                            go_wp2_with (first | ((with_reducible refine gate_callee (f := 18) rfl ?_); refine goesL_ (some 140) rfl rfl Try.func18 (by kernel_rfl) rfl #[.int .i64 a0, .slice A1 l1.length c1, .agg #[.slice Ao78 x266000_3.length co78]] rfl (by (try simp only [List.map_toArray, List.map_cons, List.map_nil]); first | done | rfl | (simp only [List.length_drop, List.length_take]; rfl)) ?_; (with_reducible refine (graph_Check.calls k3 a0 _ _ l1 _ _ x266000_3 t270 t271 _ ?side1 ?side2 ?side3 ?side4 A52.out).mono ?_); (case side1 => repeat (first | exact (Kd.C_below HR1.out HB.out) | (with_reducible refine Kd.C_alloc ?_ _) | (with_reducible refine Kd.C_drewN ?_ _) | (with_reducible refine Kd.C_drew ?_))); (case side2 => exact HC1.out); (case side3 => repeat (first | exact (Kd.N_reads' HO_266000.out).2.2 | (with_reducible refine Kd.C_alloc ?_ _) | (with_reducible refine Kd.C_drewN ?_ _) | (with_reducible refine Kd.C_drew ?_))); (case side4 => exact (Kd.N_reads' HO_266000.out).2.1); rintro e w79 ⟨rfl, hb⟩; refine ⟨_, rfl, ?_⟩; have n0_ := Aside0.mk (Kd.N_below (by (with_reducible repeat (first | apply Kd.N_alloc | apply Kd.N_drewN | apply Kd.N_drew)); exact HO_255000.out) hb); have n1_ := Aside0.mk (Kd.N_below (by (with_reducible repeat (first | apply Kd.N_alloc | apply Kd.N_drewN | apply Kd.N_drew)); exact HO_266000.out) hb); have n2_ := Aside0.mk (blk_below (g := gb254) (o := .cells #[.slice Ao28 t250.length co28] 25 (0, 0)) (by (with_reducible repeat (first | refine blk_drewN ?_ _ | refine blk_drew ?_ | refine blk_alloc ?_ _)); exact BK254.out) hb); have n3_ := Aside0.mk (blk_below (g := gb265) (o := .cells #[.slice Ao78 x266000_3.length co78] 25 (0, 0)) (by (with_reducible repeat (first | refine blk_drewN ?_ _ | refine blk_drew ?_ | refine blk_alloc ?_ _)); exact BK265.out) hb); have n4_ := Aside0.mk (below_step (by repeat (first | (with_reducible first | exact HB.out | apply below_alloc | apply pw_below_drewN | apply below_drew1 | refine below_set ?_ GE254.out | refine below_set ?_ GE265.out) | exact HB.out)) hb); clear HO_255000; clear HO_266000; clear BK254; clear BK265; clear HB; have HO_255000 := n0_; have HO_266000 := n1_; have BK254 := n2_; have BK265 := n3_; have HB := n4_; clear n0_ n1_ n2_ n3_ n4_; (try clear hb); (try clear hb2); (try clear hk); (try clear hi); have hcz80_0 : w79.cell? ⟨gb265, 0, none⟩ = some (.slice Ao78 x266000_3.length co78) := (blk_cell BK265.out 0).trans rfl; have hfz80_0 := blk_frozen BK265.out 0) | ((with_reducible refine gate_callee (f := 12) rfl ?_); refine goesL_ (some 150) rfl rfl Try.func12 (by kernel_rfl) rfl #[.int .i64 a0, .slice A1 l1.length c1, .agg #[.slice Ao78 x266000_3.length co78], .slice A2 l2.length c2, .int .i64 (Int.tmod (wrap64 (a3)) (l1.length : Int)), .int .i64 a4] rfl (by (try simp only [List.map_toArray, List.map_cons, List.map_nil]); first | done | rfl | (simp only [List.length_drop, List.length_take]; rfl)) ?_; (with_reducible refine (graph_Within.calls a0 _ _ l1 _ _ x266000_3 _ _ l2 (Int.tmod (wrap64 (a3)) (l1.length : Int)) a4 t272 t275 t276 t277 _ ?side1 ?side2 ?side3 ?side4 ?side5 ?side6 A53.out).mono ?_); (case side1 => repeat (first | exact (Kd.C_below HR1.out HB.out) | (with_reducible refine Kd.C_alloc ?_ _) | (with_reducible refine Kd.C_drewN ?_ _) | (with_reducible refine Kd.C_drew ?_))); (case side2 => exact HC1.out); (case side3 => repeat (first | exact (Kd.N_reads' HO_266000.out).2.2 | (with_reducible refine Kd.C_alloc ?_ _) | (with_reducible refine Kd.C_drewN ?_ _) | (with_reducible refine Kd.C_drew ?_))); (case side4 => exact (Kd.N_reads' HO_266000.out).2.1); (case side5 => repeat (first | exact (Kd.C_below HR2.out HB.out) | (with_reducible refine Kd.C_alloc ?_ _) | (with_reducible refine Kd.C_drewN ?_ _) | (with_reducible refine Kd.C_drew ?_))); (case side6 => exact HC2.out); rintro e w81 ⟨v273, rfl, ho0, hb⟩; refine ⟨_, rfl, ?_⟩; have n0_ := Aside0.mk (Kd.N_elder' (by (with_reducible repeat (first | apply Kd.N_alloc | apply Kd.N_drewN | apply Kd.N_drew)); exact HO_255000.out) (Kd.R_base ho0) hb); have n1_ := Aside0.mk (Kd.N_elder' (by (with_reducible repeat (first | apply Kd.N_alloc | apply Kd.N_drewN | apply Kd.N_drew)); exact HO_266000.out) (Kd.R_base ho0) hb); have n2_ := Aside0.mk (Kd.R_lower ho0 (below_size (by repeat (first | (with_reducible first | exact HB.out | apply below_alloc | apply pw_below_drewN | apply below_drew1 | refine below_set ?_ GE254.out | refine below_set ?_ GE265.out) | exact HB.out)))); have n3_ := Aside0.mk (blk_below (g := gb254) (o := .cells #[.slice Ao28 t250.length co28] 25 (0, 0)) (by (with_reducible repeat (first | refine blk_drewN ?_ _ | refine blk_drew ?_ | refine blk_alloc ?_ _)); exact BK254.out) hb); have n4_ := Aside0.mk (blk_below (g := gb265) (o := .cells #[.slice Ao78 x266000_3.length co78] 25 (0, 0)) (by (with_reducible repeat (first | refine blk_drewN ?_ _ | refine blk_drew ?_ | refine blk_alloc ?_ _)); exact BK265.out) hb); have n5_ := Aside0.mk (below_step (by repeat (first | (with_reducible first | exact HB.out | apply below_alloc | apply pw_below_drewN | apply below_drew1 | refine below_set ?_ GE254.out | refine below_set ?_ GE265.out) | exact HB.out)) hb); clear HO_255000; clear HO_266000; clear BK254; clear BK265; clear HB; have HO_255000 := n0_; have HO_266000 := n1_; have HO274 := n2_; have BK254 := n3_; have BK265 := n4_; have HB := n5_; clear n0_ n1_ n2_ n3_ n4_ n5_; (try clear hb); (try clear hb2); (try clear hk); (try clear hi); (try clear ho0)) | ((with_reducible refine gate_callee (f := 10) rfl ?_); refine goesL_ (some 155) rfl rfl Try.func10 (by kernel_rfl) rfl #[] rfl (by (try simp only [List.map_toArray, List.map_cons, List.map_nil]); first | done | rfl | (simp only [List.length_drop, List.length_take]; rfl)) ?_; (with_reducible refine (antiquarylaw27_sanity.calls  true _ A54.out).mono ?_); rintro e w82 ⟨rfl, hb⟩; refine ⟨_, rfl, ?_⟩; have n0_ := Aside0.mk (Kd.N_below (by (with_reducible repeat (first | apply Kd.N_alloc | apply Kd.N_drewN | apply Kd.N_drew)); exact HO_255000.out) hb); have n1_ := Aside0.mk (Kd.N_below (by (with_reducible repeat (first | apply Kd.N_alloc | apply Kd.N_drewN | apply Kd.N_drew)); exact HO_266000.out) hb); have n2_ := Aside0.mk (Kd.R_below (by (with_reducible repeat (first | apply Kd.R_alloc | apply Kd.R_drewN | apply Kd.R_drew)); exact HO274.out) hb); have n3_ := Aside0.mk (blk_below (g := gb254) (o := .cells #[.slice Ao28 t250.length co28] 25 (0, 0)) (by (with_reducible repeat (first | refine blk_drewN ?_ _ | refine blk_drew ?_ | refine blk_alloc ?_ _)); exact BK254.out) hb); have n4_ := Aside0.mk (blk_below (g := gb265) (o := .cells #[.slice Ao78 x266000_3.length co78] 25 (0, 0)) (by (with_reducible repeat (first | refine blk_drewN ?_ _ | refine blk_drew ?_ | refine blk_alloc ?_ _)); exact BK265.out) hb); have n5_ := Aside0.mk (below_step (by repeat (first | (with_reducible first | exact HB.out | apply below_alloc | apply pw_below_drewN | apply below_drew1 | refine below_set ?_ GE254.out | refine below_set ?_ GE265.out) | exact HB.out)) hb); clear HO_255000; clear HO_266000; clear HO274; clear BK254; clear BK265; clear HB; have HO_255000 := n0_; have HO_266000 := n1_; have HO274 := n2_; have BK254 := n3_; have BK265 := n4_; have HB := n5_; clear n0_ n1_ n2_ n3_ n4_ n5_; (try clear hb); (try clear hb2); (try clear hk); (try clear hi)))
                            go_ret
                            exact ⟨by first | rfl | (simp [errW_none, errW_some] <;> rfl) | (simp [*, errW_none, errW_some] <;> rfl), by repeat (first | (with_reducible first | exact HB.out | apply below_alloc | apply pw_below_drewN | apply below_drew1 | refine below_set ?_ GE254.out | refine below_set ?_ GE265.out) | exact HB.out)⟩
                        · rw [if_neg c56] at H
                          have c56b0 : (t271 == 0) = false := beq_eq_false_iff_ne.mpr c56
                          have c56b1 : (t271 != 0) = true := bne_iff_ne.mpr c56
                          obtain rfl := Option.some.inj H
                          have hnb83 := NB254_265.out
                          have hnc83 := NB265_254.out
                          have hcz84_0 : wr.cell? ⟨gb254, 0, none⟩ = some (.slice Ao28 t250.length co28) := (blk_cell BK254.out 0).trans rfl
                          have hfz84_0 := blk_frozen BK254.out 0
                          have hcz85_0 : wr.cell? ⟨gb265, 0, none⟩ = some (u266000) := (blk_cell BK265.out 0).trans rfl
                          have hfz85_0 := blk_frozen BK265.out 0
                          obtain ⟨Ao86, co86, eo86⟩ := Kd.N_slice HO_266000.out
                          subst eo86
                          go_wp2_with (first | ((with_reducible refine gate_callee (f := 18) rfl ?_); refine goesL_ (some 140) rfl rfl Try.func18 (by kernel_rfl) rfl #[.int .i64 a0, .slice A1 l1.length c1, .agg #[.slice Ao86 x266000_3.length co86]] rfl (by (try simp only [List.map_toArray, List.map_cons, List.map_nil]); first | done | rfl | (simp only [List.length_drop, List.length_take]; rfl)) ?_; (with_reducible refine (graph_Check.calls k3 a0 _ _ l1 _ _ x266000_3 t270 t271 _ ?side1 ?side2 ?side3 ?side4 A52.out).mono ?_); (case side1 => repeat (first | exact (Kd.C_below HR1.out HB.out) | (with_reducible refine Kd.C_alloc ?_ _) | (with_reducible refine Kd.C_drewN ?_ _) | (with_reducible refine Kd.C_drew ?_))); (case side2 => exact HC1.out); (case side3 => repeat (first | exact (Kd.N_reads' HO_266000.out).2.2 | (with_reducible refine Kd.C_alloc ?_ _) | (with_reducible refine Kd.C_drewN ?_ _) | (with_reducible refine Kd.C_drew ?_))); (case side4 => exact (Kd.N_reads' HO_266000.out).2.1); rintro e w87 ⟨rfl, hb⟩; refine ⟨_, rfl, ?_⟩; have n0_ := Aside0.mk (Kd.N_below (by (with_reducible repeat (first | apply Kd.N_alloc | apply Kd.N_drewN | apply Kd.N_drew)); exact HO_255000.out) hb); have n1_ := Aside0.mk (Kd.N_below (by (with_reducible repeat (first | apply Kd.N_alloc | apply Kd.N_drewN | apply Kd.N_drew)); exact HO_266000.out) hb); have n2_ := Aside0.mk (blk_below (g := gb254) (o := .cells #[.slice Ao28 t250.length co28] 25 (0, 0)) (by (with_reducible repeat (first | refine blk_drewN ?_ _ | refine blk_drew ?_ | refine blk_alloc ?_ _)); exact BK254.out) hb); have n3_ := Aside0.mk (blk_below (g := gb265) (o := .cells #[.slice Ao86 x266000_3.length co86] 25 (0, 0)) (by (with_reducible repeat (first | refine blk_drewN ?_ _ | refine blk_drew ?_ | refine blk_alloc ?_ _)); exact BK265.out) hb); have n4_ := Aside0.mk (below_step (by repeat (first | (with_reducible first | exact HB.out | apply below_alloc | apply pw_below_drewN | apply below_drew1 | refine below_set ?_ GE254.out | refine below_set ?_ GE265.out) | exact HB.out)) hb); clear HO_255000; clear HO_266000; clear BK254; clear BK265; clear HB; have HO_255000 := n0_; have HO_266000 := n1_; have BK254 := n2_; have BK265 := n3_; have HB := n4_; clear n0_ n1_ n2_ n3_ n4_; (try clear hb); (try clear hb2); (try clear hk); (try clear hi); have hcz88_0 : w87.cell? ⟨gb265, 0, none⟩ = some (.slice Ao86 x266000_3.length co86) := (blk_cell BK265.out 0).trans rfl; have hfz88_0 := blk_frozen BK265.out 0) | ((with_reducible refine gate_callee (f := 12) rfl ?_); refine goesL_ (some 150) rfl rfl Try.func12 (by kernel_rfl) rfl #[.int .i64 a0, .slice A1 l1.length c1, .agg #[.slice Ao86 x266000_3.length co86], .slice A2 l2.length c2, .int .i64 (Int.tmod (wrap64 (a3)) (l1.length : Int)), .int .i64 a4] rfl (by (try simp only [List.map_toArray, List.map_cons, List.map_nil]); first | done | rfl | (simp only [List.length_drop, List.length_take]; rfl)) ?_; (with_reducible refine (graph_Within.calls a0 _ _ l1 _ _ x266000_3 _ _ l2 (Int.tmod (wrap64 (a3)) (l1.length : Int)) a4 t272 t275 t276 t277 _ ?side1 ?side2 ?side3 ?side4 ?side5 ?side6 A53.out).mono ?_); (case side1 => repeat (first | exact (Kd.C_below HR1.out HB.out) | (with_reducible refine Kd.C_alloc ?_ _) | (with_reducible refine Kd.C_drewN ?_ _) | (with_reducible refine Kd.C_drew ?_))); (case side2 => exact HC1.out); (case side3 => repeat (first | exact (Kd.N_reads' HO_266000.out).2.2 | (with_reducible refine Kd.C_alloc ?_ _) | (with_reducible refine Kd.C_drewN ?_ _) | (with_reducible refine Kd.C_drew ?_))); (case side4 => exact (Kd.N_reads' HO_266000.out).2.1); (case side5 => repeat (first | exact (Kd.C_below HR2.out HB.out) | (with_reducible refine Kd.C_alloc ?_ _) | (with_reducible refine Kd.C_drewN ?_ _) | (with_reducible refine Kd.C_drew ?_))); (case side6 => exact HC2.out); rintro e w89 ⟨v273, rfl, ho0, hb⟩; refine ⟨_, rfl, ?_⟩; have n0_ := Aside0.mk (Kd.N_elder' (by (with_reducible repeat (first | apply Kd.N_alloc | apply Kd.N_drewN | apply Kd.N_drew)); exact HO_255000.out) (Kd.R_base ho0) hb); have n1_ := Aside0.mk (Kd.N_elder' (by (with_reducible repeat (first | apply Kd.N_alloc | apply Kd.N_drewN | apply Kd.N_drew)); exact HO_266000.out) (Kd.R_base ho0) hb); have n2_ := Aside0.mk (Kd.R_lower ho0 (below_size (by repeat (first | (with_reducible first | exact HB.out | apply below_alloc | apply pw_below_drewN | apply below_drew1 | refine below_set ?_ GE254.out | refine below_set ?_ GE265.out) | exact HB.out)))); have n3_ := Aside0.mk (blk_below (g := gb254) (o := .cells #[.slice Ao28 t250.length co28] 25 (0, 0)) (by (with_reducible repeat (first | refine blk_drewN ?_ _ | refine blk_drew ?_ | refine blk_alloc ?_ _)); exact BK254.out) hb); have n4_ := Aside0.mk (blk_below (g := gb265) (o := .cells #[.slice Ao86 x266000_3.length co86] 25 (0, 0)) (by (with_reducible repeat (first | refine blk_drewN ?_ _ | refine blk_drew ?_ | refine blk_alloc ?_ _)); exact BK265.out) hb); have n5_ := Aside0.mk (below_step (by repeat (first | (with_reducible first | exact HB.out | apply below_alloc | apply pw_below_drewN | apply below_drew1 | refine below_set ?_ GE254.out | refine below_set ?_ GE265.out) | exact HB.out)) hb); clear HO_255000; clear HO_266000; clear BK254; clear BK265; clear HB; have HO_255000 := n0_; have HO_266000 := n1_; have HO274 := n2_; have BK254 := n3_; have BK265 := n4_; have HB := n5_; clear n0_ n1_ n2_ n3_ n4_ n5_; (try clear hb); (try clear hb2); (try clear hk); (try clear hi); (try clear ho0)) | ((with_reducible refine gate_callee (f := 10) rfl ?_); refine goesL_ (some 155) rfl rfl Try.func10 (by kernel_rfl) rfl #[] rfl (by (try simp only [List.map_toArray, List.map_cons, List.map_nil]); first | done | rfl | (simp only [List.length_drop, List.length_take]; rfl)) ?_; (with_reducible refine (antiquarylaw27_sanity.calls  true _ A54.out).mono ?_); rintro e w90 ⟨rfl, hb⟩; refine ⟨_, rfl, ?_⟩; have n0_ := Aside0.mk (Kd.N_below (by (with_reducible repeat (first | apply Kd.N_alloc | apply Kd.N_drewN | apply Kd.N_drew)); exact HO_255000.out) hb); have n1_ := Aside0.mk (Kd.N_below (by (with_reducible repeat (first | apply Kd.N_alloc | apply Kd.N_drewN | apply Kd.N_drew)); exact HO_266000.out) hb); have n2_ := Aside0.mk (Kd.R_below (by (with_reducible repeat (first | apply Kd.R_alloc | apply Kd.R_drewN | apply Kd.R_drew)); exact HO274.out) hb); have n3_ := Aside0.mk (blk_below (g := gb254) (o := .cells #[.slice Ao28 t250.length co28] 25 (0, 0)) (by (with_reducible repeat (first | refine blk_drewN ?_ _ | refine blk_drew ?_ | refine blk_alloc ?_ _)); exact BK254.out) hb); have n4_ := Aside0.mk (blk_below (g := gb265) (o := .cells #[.slice Ao86 x266000_3.length co86] 25 (0, 0)) (by (with_reducible repeat (first | refine blk_drewN ?_ _ | refine blk_drew ?_ | refine blk_alloc ?_ _)); exact BK265.out) hb); have n5_ := Aside0.mk (below_step (by repeat (first | (with_reducible first | exact HB.out | apply below_alloc | apply pw_below_drewN | apply below_drew1 | refine below_set ?_ GE254.out | refine below_set ?_ GE265.out) | exact HB.out)) hb); clear HO_255000; clear HO_266000; clear HO274; clear BK254; clear BK265; clear HB; have HO_255000 := n0_; have HO_266000 := n1_; have HO274 := n2_; have BK254 := n3_; have BK265 := n4_; have HB := n5_; clear n0_ n1_ n2_ n3_ n4_ n5_; (try clear hb); (try clear hb2); (try clear hk); (try clear hi)))
                          go_ret
                          exact ⟨by first | rfl | (simp [errW_none, errW_some] <;> rfl) | (simp [*, errW_none, errW_some] <;> rfl), by repeat (first | (with_reducible first | exact HB.out | apply below_alloc | apply pw_below_drewN | apply below_drew1 | refine below_set ?_ GE254.out | refine below_set ?_ GE265.out) | exact HB.out)⟩
                      · replace c55 := Bool.eq_false_iff.mpr c55
                        subst c55
                        have H1 : (some false) = some r := by rw [if_neg (show ¬ (false = true) by decide)] at H; exact H
                        clear H
                        have H := H1
                        clear H1
                        obtain rfl := Option.some.inj H
                        have hnb91 := NB254_265.out
                        have hnc91 := NB265_254.out
                        have hcz92_0 : wr.cell? ⟨gb254, 0, none⟩ = some (.slice Ao28 t250.length co28) := (blk_cell BK254.out 0).trans rfl
                        have hfz92_0 := blk_frozen BK254.out 0
                        have hcz93_0 : wr.cell? ⟨gb265, 0, none⟩ = some (u266000) := (blk_cell BK265.out 0).trans rfl
                        have hfz93_0 := blk_frozen BK265.out 0
                        obtain ⟨Ao94, co94, eo94⟩ := Kd.N_slice HO_266000.out
                        subst eo94
                        go_wp2_with (first | ((with_reducible refine gate_callee (f := 18) rfl ?_); refine goesL_ (some 140) rfl rfl Try.func18 (by kernel_rfl) rfl #[.int .i64 a0, .slice A1 l1.length c1, .agg #[.slice Ao94 x266000_3.length co94]] rfl (by (try simp only [List.map_toArray, List.map_cons, List.map_nil]); first | done | rfl | (simp only [List.length_drop, List.length_take]; rfl)) ?_; (with_reducible refine (graph_Check.calls k3 a0 _ _ l1 _ _ x266000_3 t270 t271 _ ?side1 ?side2 ?side3 ?side4 A52.out).mono ?_); (case side1 => repeat (first | exact (Kd.C_below HR1.out HB.out) | (with_reducible refine Kd.C_alloc ?_ _) | (with_reducible refine Kd.C_drewN ?_ _) | (with_reducible refine Kd.C_drew ?_))); (case side2 => exact HC1.out); (case side3 => repeat (first | exact (Kd.N_reads' HO_266000.out).2.2 | (with_reducible refine Kd.C_alloc ?_ _) | (with_reducible refine Kd.C_drewN ?_ _) | (with_reducible refine Kd.C_drew ?_))); (case side4 => exact (Kd.N_reads' HO_266000.out).2.1); rintro e w95 ⟨rfl, hb⟩; refine ⟨_, rfl, ?_⟩; have n0_ := Aside0.mk (Kd.N_below (by (with_reducible repeat (first | apply Kd.N_alloc | apply Kd.N_drewN | apply Kd.N_drew)); exact HO_255000.out) hb); have n1_ := Aside0.mk (Kd.N_below (by (with_reducible repeat (first | apply Kd.N_alloc | apply Kd.N_drewN | apply Kd.N_drew)); exact HO_266000.out) hb); have n2_ := Aside0.mk (blk_below (g := gb254) (o := .cells #[.slice Ao28 t250.length co28] 25 (0, 0)) (by (with_reducible repeat (first | refine blk_drewN ?_ _ | refine blk_drew ?_ | refine blk_alloc ?_ _)); exact BK254.out) hb); have n3_ := Aside0.mk (blk_below (g := gb265) (o := .cells #[.slice Ao94 x266000_3.length co94] 25 (0, 0)) (by (with_reducible repeat (first | refine blk_drewN ?_ _ | refine blk_drew ?_ | refine blk_alloc ?_ _)); exact BK265.out) hb); have n4_ := Aside0.mk (below_step (by repeat (first | (with_reducible first | exact HB.out | apply below_alloc | apply pw_below_drewN | apply below_drew1 | refine below_set ?_ GE254.out | refine below_set ?_ GE265.out) | exact HB.out)) hb); clear HO_255000; clear HO_266000; clear BK254; clear BK265; clear HB; have HO_255000 := n0_; have HO_266000 := n1_; have BK254 := n2_; have BK265 := n3_; have HB := n4_; clear n0_ n1_ n2_ n3_ n4_; (try clear hb); (try clear hb2); (try clear hk); (try clear hi); have hcz96_0 : w95.cell? ⟨gb265, 0, none⟩ = some (.slice Ao94 x266000_3.length co94) := (blk_cell BK265.out 0).trans rfl; have hfz96_0 := blk_frozen BK265.out 0) | ((with_reducible refine gate_callee (f := 12) rfl ?_); refine goesL_ (some 150) rfl rfl Try.func12 (by kernel_rfl) rfl #[.int .i64 a0, .slice A1 l1.length c1, .agg #[.slice Ao94 x266000_3.length co94], .slice A2 l2.length c2, .int .i64 (Int.tmod (wrap64 (a3)) (l1.length : Int)), .int .i64 a4] rfl (by (try simp only [List.map_toArray, List.map_cons, List.map_nil]); first | done | rfl | (simp only [List.length_drop, List.length_take]; rfl)) ?_; (with_reducible refine (graph_Within.calls a0 _ _ l1 _ _ x266000_3 _ _ l2 (Int.tmod (wrap64 (a3)) (l1.length : Int)) a4 t272 t275 t276 t277 _ ?side1 ?side2 ?side3 ?side4 ?side5 ?side6 A53.out).mono ?_); (case side1 => repeat (first | exact (Kd.C_below HR1.out HB.out) | (with_reducible refine Kd.C_alloc ?_ _) | (with_reducible refine Kd.C_drewN ?_ _) | (with_reducible refine Kd.C_drew ?_))); (case side2 => exact HC1.out); (case side3 => repeat (first | exact (Kd.N_reads' HO_266000.out).2.2 | (with_reducible refine Kd.C_alloc ?_ _) | (with_reducible refine Kd.C_drewN ?_ _) | (with_reducible refine Kd.C_drew ?_))); (case side4 => exact (Kd.N_reads' HO_266000.out).2.1); (case side5 => repeat (first | exact (Kd.C_below HR2.out HB.out) | (with_reducible refine Kd.C_alloc ?_ _) | (with_reducible refine Kd.C_drewN ?_ _) | (with_reducible refine Kd.C_drew ?_))); (case side6 => exact HC2.out); rintro e w97 ⟨v273, rfl, ho0, hb⟩; refine ⟨_, rfl, ?_⟩; have n0_ := Aside0.mk (Kd.N_elder' (by (with_reducible repeat (first | apply Kd.N_alloc | apply Kd.N_drewN | apply Kd.N_drew)); exact HO_255000.out) (Kd.R_base ho0) hb); have n1_ := Aside0.mk (Kd.N_elder' (by (with_reducible repeat (first | apply Kd.N_alloc | apply Kd.N_drewN | apply Kd.N_drew)); exact HO_266000.out) (Kd.R_base ho0) hb); have n2_ := Aside0.mk (Kd.R_lower ho0 (below_size (by repeat (first | (with_reducible first | exact HB.out | apply below_alloc | apply pw_below_drewN | apply below_drew1 | refine below_set ?_ GE254.out | refine below_set ?_ GE265.out) | exact HB.out)))); have n3_ := Aside0.mk (blk_below (g := gb254) (o := .cells #[.slice Ao28 t250.length co28] 25 (0, 0)) (by (with_reducible repeat (first | refine blk_drewN ?_ _ | refine blk_drew ?_ | refine blk_alloc ?_ _)); exact BK254.out) hb); have n4_ := Aside0.mk (blk_below (g := gb265) (o := .cells #[.slice Ao94 x266000_3.length co94] 25 (0, 0)) (by (with_reducible repeat (first | refine blk_drewN ?_ _ | refine blk_drew ?_ | refine blk_alloc ?_ _)); exact BK265.out) hb); have n5_ := Aside0.mk (below_step (by repeat (first | (with_reducible first | exact HB.out | apply below_alloc | apply pw_below_drewN | apply below_drew1 | refine below_set ?_ GE254.out | refine below_set ?_ GE265.out) | exact HB.out)) hb); clear HO_255000; clear HO_266000; clear BK254; clear BK265; clear HB; have HO_255000 := n0_; have HO_266000 := n1_; have HO274 := n2_; have BK254 := n3_; have BK265 := n4_; have HB := n5_; clear n0_ n1_ n2_ n3_ n4_ n5_; (try clear hb); (try clear hb2); (try clear hk); (try clear hi); (try clear ho0)) | ((with_reducible refine gate_callee (f := 10) rfl ?_); refine goesL_ (some 155) rfl rfl Try.func10 (by kernel_rfl) rfl #[] rfl (by (try simp only [List.map_toArray, List.map_cons, List.map_nil]); first | done | rfl | (simp only [List.length_drop, List.length_take]; rfl)) ?_; (with_reducible refine (antiquarylaw27_sanity.calls  false _ A54.out).mono ?_); rintro e w98 ⟨rfl, hb⟩; refine ⟨_, rfl, ?_⟩; have n0_ := Aside0.mk (Kd.N_below (by (with_reducible repeat (first | apply Kd.N_alloc | apply Kd.N_drewN | apply Kd.N_drew)); exact HO_255000.out) hb); have n1_ := Aside0.mk (Kd.N_below (by (with_reducible repeat (first | apply Kd.N_alloc | apply Kd.N_drewN | apply Kd.N_drew)); exact HO_266000.out) hb); have n2_ := Aside0.mk (Kd.R_below (by (with_reducible repeat (first | apply Kd.R_alloc | apply Kd.R_drewN | apply Kd.R_drew)); exact HO274.out) hb); have n3_ := Aside0.mk (blk_below (g := gb254) (o := .cells #[.slice Ao28 t250.length co28] 25 (0, 0)) (by (with_reducible repeat (first | refine blk_drewN ?_ _ | refine blk_drew ?_ | refine blk_alloc ?_ _)); exact BK254.out) hb); have n4_ := Aside0.mk (blk_below (g := gb265) (o := .cells #[.slice Ao94 x266000_3.length co94] 25 (0, 0)) (by (with_reducible repeat (first | refine blk_drewN ?_ _ | refine blk_drew ?_ | refine blk_alloc ?_ _)); exact BK265.out) hb); have n5_ := Aside0.mk (below_step (by repeat (first | (with_reducible first | exact HB.out | apply below_alloc | apply pw_below_drewN | apply below_drew1 | refine below_set ?_ GE254.out | refine below_set ?_ GE265.out) | exact HB.out)) hb); clear HO_255000; clear HO_266000; clear HO274; clear BK254; clear BK265; clear HB; have HO_255000 := n0_; have HO_266000 := n1_; have HO274 := n2_; have BK254 := n3_; have BK265 := n4_; have HB := n5_; clear n0_ n1_ n2_ n3_ n4_ n5_; (try clear hb); (try clear hb2); (try clear hk); (try clear hi)))
                        go_ret
                        exact ⟨by first | rfl | (simp [errW_none, errW_some] <;> rfl) | (simp [*, errW_none, errW_some] <;> rfl), by repeat (first | (with_reducible first | exact HB.out | apply below_alloc | apply pw_below_drewN | apply below_drew1 | refine below_set ?_ GE254.out | refine below_set ?_ GE265.out) | exact HB.out)⟩

end Go.Proofs.Ythbkomkgciemiaa.PKM
/- GraphOfAllIsSure in plain terms: true, whatever is given. -/
namespace Go.Proofs.Ythbkomkgciemiaa.PKM
open Go.Proofs.Ythbkomkgciemiaa.RF
open Go.RowKit Go.Proofs.YthbkomkgciemiaaW.PrintWords Go.Proofs.YthbkomkgciemiaaW.PrintLast Go.Proofs.YthbkomkgciemiaaW.PrintMore
attribute [local go_sem] max2_int min2_int max_two min_two max_three min_three max_four min_four
set_option linter.unusedVariables false
set_option linter.unusedSimpArgs false
theorem all_le (ks : List Int) (h : 1 ≤ ks.length) (j : Int) (hj : j = (ks.length : Int) - 1) : ∀ y ∈ ks, y ≤ rd (sortI ks) j := by
  intro y hy
  obtain ⟨_, h2, _⟩ := kth_cnt ks (ks.length - 1) (by omega)
  rw [show ((ks.length - 1 : Nat) : Int) = j by omega] at h2
  apply Decidable.byContradiction
  intro hn
  have := (List.length_filter_lt_length_iff_exists (p := fun z => decide (z ≤ rd (sortI ks) j)) (l := ks)).2 ⟨y, hy, by simpa using hn⟩
  omega
theorem aroundTo_congr (ks : List Int) (s t : Int) : ∀ n : Nat, (∀ i : Nat, i < n → (rd ks i ≤ s ↔ rd ks i ≤ t)) → aroundTo ks s n = aroundTo ks t n
  | 0, _ => rfl
  | n + 1, h => by
    simp only [aroundTo]
    rw [aroundTo_congr ks s t n (fun i hi => h i (by omega))]
    have := h n (by omega)
    by_cases c : rd ks n ≤ s
    · rw [if_pos c, if_pos (this.1 c)]
    · rw [if_neg c, if_neg (fun h2 => c (this.2 h2))]
def wideV (g : List Hd) : List Hd := g.map fun h => ⟨134217728, h.f1⟩
theorem wide_len (g : List Hd) : (wideV g).length = g.length := by simp [wideV]
theorem wide_at (g : List Hd) (j : Nat) (h : j < g.length) : rd_T39 (wideV g) j = ⟨134217728, (rd_T39 g j).f1⟩ := by
  unfold rd_T39 wideV
  simp [h]
theorem wide_valid {n : Int} {g : List Hd} (h : ValidG n g) : ValidG n (wideV g) := by
  refine ⟨h.1, h.2.1, by rw [wide_len]; exact h.2.2.1, fun j hj => ?_⟩
  rw [wide_len] at hj
  rw [wide_at g j hj]
  have := h.2.2.2 j hj
  exact ⟨by show (0 : Int) ≤ 134217728; omega, by show (134217728 : Int) ≤ 134217728; omega, this.2.2.1, this.2.2.2⟩
theorem wide_short {g : List Hd} (h : ∀ x ∈ g, x.f1.length ≤ 4096) : ∀ x ∈ wideV g, x.f1.length ≤ 4096 := by
  intro x hx
  unfold wideV at hx
  obtain ⟨y, hy, rfl⟩ := List.mem_map.1 hx
  exact h y hy
/-- With the greatest key as the radius, a neighbourhood has all slots. -/
theorem hoodAll (m : Int) (l : List (List Int)) (v : List Int) (hl : 1 ≤ l.length) : ∀ q : Int, 0 ≤ q → q < l.length → q ∈ (hoodV m l l.length v).f1 := by
  intro q h0 h1
  have hkl := keysV_length m l v
  refine (aroundV_mem _ _ _).2 ⟨h0, by omega, ?_⟩
  exact all_le (keysV m l v) (by omega) _ (by unfold mn; split <;> omega) _ (rd_mem h0 (by omega))
theorem wide_exact (m : Int) (l : List (List Int)) (hr : rightF m l = true) (j : Nat) (hj : j < l.length) : Exact m l (wideV (hoodsV m l l.length l.length)) j := by
  obtain ⟨hm, ⟨hl1, hl2⟩, hall⟩ := rightF_iff.1 hr
  unfold Exact
  rw [wide_at _ j (by rw [hoods_len]; exact hj), hoods_at m l l.length j hj]
  have hkl := keysV_length m l (rdL l j)
  have hmem : rdL l j ∈ l := rdL_mem (by omega) (by omega)
  refine aroundTo_congr _ _ _ _ fun i hi => ?_
  have hm := rd_mem (l := keysV m l (rdL l j)) (i := (i : Int)) (by omega) (by omega)
  have h1 := all_le (keysV m l (rdL l j)) (by omega) (mn l.length l.length - 1) (by unfold mn; split <;> omega) _ hm
  have h2 := keysV_bd (m := m) (l := l) (v := rdL l j) (fun x hx => alike_trans (hall x hx) (hall _ hmem)) _ hm
  exact ⟨fun _ => h2.2, fun _ => h1⟩
theorem walk_two (m : Int) (l : List (List Int)) (v : List Int) (hr : rightF m l = true) (a : Int) (h0 : 0 ≤ a) (h1 : a < l.length) : (walkV (keysV m l v) (hoodsV m l l.length l.length) a).length ≤ 2 := by
  obtain ⟨hm, ⟨hl1, hl2⟩, hall⟩ := rightF_iff.1 hr
  have hkl := keysV_length m l v
  have hf : ∀ b : Int, 0 ≤ b → b < l.length → (rd_T39 (hoodsV m l l.length l.length) b) = hoodV m l l.length (rdL l b) := by
    intro b hb0 hb1
    have := hoods_at m l l.length b.toNat (by omega)
    rwa [show ((b.toNat : Nat) : Int) = b by omega] at this
  have hmin : ∀ b q : Int, 0 ≤ b → b < l.length → 0 ≤ q → q < l.length → rd (keysV m l v) (nextV (keysV m l v) (hoodsV m l l.length l.length) b) ≤ rd (keysV m l v) q := by
    intro b q hb0 hb1 hq0 hq1
    refine nextV_le _ _ _ q ?_
    rw [hf b hb0 hb1]
    exact hoodAll m l _ hl1 q hq0 hq1
  rw [walkV]
  split
  · rename_i hh
    obtain ⟨_, hn0, hn1⟩ := hh
    rw [hkl] at hn1
    have hend := walkV_end (ks := keysV m l v) (g := hoodsV m l l.length l.length) (a := nextV (keysV m l v) (hoodsV m l l.length l.length) a) ?_
    · rw [hend]; simp
    · have hg := good_of_valid (hoods_valid m l l.length hr (by omega))
      have hnx := nextV_in hg hkl (nextV (keysV m l v) (hoodsV m l l.length l.length) a) hn0 (by exact_mod_cast hn1)
      exact hmin a _ h0 h1 hnx.1 hnx.2
  · simp
theorem sure_l0 (m : Int) (l : List (List Int)) (v : List Int) (t s : Int) (g : List Hd) (hg : g.length ≤ 4096) (k0 : Nat) (hfin : ∀ k, k0 ≤ k → antiquarylaw27_GraphOfAllIsSure.l0 k m l v t s g.length g (wideV g) = some true) (d : Nat) : ∀ i : Nat, i + d = g.length →
    ∃ k, antiquarylaw27_GraphOfAllIsSure.l0 k m l v t s i g (wideV (g.take i)) = some true := by
  induction d with
  | zero =>
    intro i hi
    rw [List.take_of_length_le (by omega), show i = g.length by omega]
    exact ⟨k0, hfin k0 (Nat.le_refl _)⟩
  | succ d ih =>
    intro i hi
    obtain ⟨k, h⟩ := ih (i + 1) (by omega)
    refine ⟨k + 1, ?_⟩
    have e : wideV (g.take (i + 1)) = wideV (g.take i) ++ [⟨134217728, (rd_T39 g i).f1⟩] := by
      unfold wideV
      rw [List.take_succ_eq_append_getElem (by omega), List.map_append, rdT_get g i (by omega)]; rfl
    have hlen : (wideV (g.take i)).length < 4398046511104 := by rw [wide_len, List.length_take]; omega
    rw [antiquarylaw27_GraphOfAllIsSure.l0, if_pos (by omega), if_pos (by omega), if_pos hlen, w64 (by omega), ← e]
    exact h
theorem ofAllIsSure_pure (m : Int) (l : List (List Int)) (v : List Int) (a3 a4 a5 : Int) (hv : v.length ≤ 9223372036854775807) (h30 : 0 ≤ a3) (h31 : a3 ≤ 255) (h50 : 0 ≤ a5) (h51 : a5 ≤ 255) : ∃ k, antiquarylaw27_GraphOfAllIsSure.f k m l v a3 a4 a5 = some true := by
  obtain ⟨k1, r1, f1, f2⟩ := few09_ex l
  have hj0 : ∀ k, antiquarylaw27_GraphOfAllIsSure.j0 (k + 1) m l v a3 a4 a5 true = some true := fun k => by rw [antiquarylaw27_GraphOfAllIsSure.j0, if_pos rfl]; rfl
  cases r1 with
  | false =>
    refine ⟨k1 + 1, ?_⟩
    unfold antiquarylaw27_GraphOfAllIsSure.f
    rw [up_le (antiquaryref09_Few.mono _ _) f1 (show k1 ≤ k1 + 1 by omega), Option.bind_some, if_neg (by simp)]
    exact hj0 k1
  | true =>
    have hfew := f2 rfl
    by_cases c : 1 ≤ m ∧ m ≤ 3
    · obtain ⟨k2, r2, g1, g2⟩ := fit_ex l hfew
      cases r2 with
      | false =>
        refine ⟨k1 + k2 + 1, ?_⟩
        unfold antiquarylaw27_GraphOfAllIsSure.f
        rw [up_le (antiquaryref09_Few.mono _ _) f1 (show k1 ≤ k1 + k2 + 1 by omega), Option.bind_some, if_pos rfl, metric09, Option.bind_some, decide_eq_true c, if_pos rfl, up_le (antiquaryref09_Fit.mono _) g1 (show k2 ≤ k1 + k2 + 1 by omega), Option.bind_some, if_neg (by simp)]
        exact hj0 (k1 + k2)
      | true =>
        have hr : rightF m l = true := right_iff_fit.2 ⟨c, g2.1 rfl⟩
        obtain ⟨_, ⟨hl1, hl2⟩, hall⟩ := rightF_iff.1 hr
        have hl0 : (rdL l 0).length ≤ 40 := hfew.2 _ (rdL_mem (by omega) (by omega))
        obtain ⟨k3, al⟩ := alike04_ex (rdL l 0) v (by omega) hv
        have hpre : ∀ K, k1 + k2 + k3 ≤ K → antiquarylaw27_GraphOfAllIsSure.f K m l v a3 a4 a5 = if alikeF (rdL l 0) v = true then (if a4 < 0 then (antiquarylaw27_GraphOfAllIsSure.j0 K m l v a3 a4 a5 true) else (antiquarylaw27_GraphOfAllIsSure.j0 K m l v a3 a4 a5 (decide (a4 > 134217728)))) else antiquarylaw27_GraphOfAllIsSure.j0 K m l v a3 a4 a5 true := by
          intro K hK
          unfold antiquarylaw27_GraphOfAllIsSure.f
          rw [up_le (antiquaryref09_Few.mono _ _) f1 (show k1 ≤ K by omega), Option.bind_some, if_pos rfl, metric09, Option.bind_some, decide_eq_true c, if_pos rfl, up_le (antiquaryref09_Fit.mono _) g1 (show k2 ≤ K by omega), Option.bind_some, if_pos rfl, if_pos (by omega), rd_L1_eq, al K (by omega), Option.bind_some]
        cases ha : alikeF (rdL l 0) v with
        | false =>
          refine ⟨k1 + k2 + k3 + 1, ?_⟩
          rw [hpre _ (by omega), ha, if_neg (by simp)]
          exact hj0 _
        | true =>
          by_cases ct0 : a4 < 0
          · refine ⟨k1 + k2 + k3 + 1, ?_⟩
            rw [hpre _ (by omega), ha, if_pos rfl, if_pos ct0]
            exact hj0 _
          · by_cases ct1 : a4 > 134217728
            · refine ⟨k1 + k2 + k3 + 1, ?_⟩
              rw [hpre _ (by omega), ha, if_pos rfl, if_neg ct0, decide_eq_true ct1]
              exact hj0 _
            · have hal := alike_all (m := m) hr ha
              have hv1 := hoods_valid m l l.length hr (by omega)
              have hs1 : ∀ h ∈ hoodsV m l l.length l.length, h.f1.length ≤ 4096 := fun h hh => Nat.le_trans (hoods_few m l l.length hl2 h hh) hl2
              have hs2 := wide_short hs1
              have hv2 := wide_valid hv1
              obtain ⟨kc, rc, c1, c2⟩ := check_ex m l (wideV (hoodsV m l l.length l.length)) hr hv2 hs2
              obtain rfl := c2.2 fun j hj => wide_exact m l hr j hj
              have hln : (0 : Int) < l.length := by omega
              obtain ⟨s, hs⟩ : ∃ s, s = Int.tmod (wrap64 a3) (l.length : Int) := ⟨_, rfl⟩
              have hs3 : 0 ≤ s ∧ s < l.length := by rw [hs, w64 (by omega)]; exact ⟨Int.tmod_nonneg _ h30, Int.tmod_lt_of_pos _ hln⟩
              obtain ⟨kk, hkk⟩ : ∃ q, q = wrap64 (1 + Int.tmod (wrap64 a5) 64) := ⟨_, rfl⟩
              have hk3 : 1 ≤ kk ∧ kk ≤ 64 := by
                have e1 := Int.tmod_nonneg (a := a5) 64 h50
                have e2 := Int.tmod_lt_of_pos a5 (show (0 : Int) < 64 by omega)
                rw [hkk, w64 (i := a5) (by omega), w64 (by omega)]; omega
              have hask1 : Asked m l (hoodsV m l l.length l.length) v s := ⟨hr, hv1, ha, hs3.1, hs3.2⟩
              have hask2 : Asked m l (wideV (hoodsV m l l.length l.length)) v s := ⟨hr, hv2, ha, hs3.1, hs3.2⟩
              have hW := walk_two m l v hr s hs3.1 hs3.2
              have eW : graph_Walk.f m l (hoodsV m l l.length l.length) v s = some (walkV (keysV m l v) (hoodsV m l l.length l.length) s, 0) := by
                unfold graph_Walk.f; rw [if_pos (shortB_mk hs1), if_pos hask1]
              have hwi := walkV_in (n := l.length) (good_of_valid hv1) (keysV_length m l v) s hs3.1 hs3.2
              have hlast := lastF_in (n := l.length) (from_ := s) ⟨hs3.1, hs3.2⟩ hwi
              have hfull : (rd_T39 (hoodsV m l l.length l.length) (lastF s (walkV (keysV m l v) (hoodsV m l l.length l.length) s))).f1.length = l.length := by
                obtain ⟨z, hz⟩ : ∃ z : Nat, (z : Int) = lastF s (walkV (keysV m l v) (hoodsV m l l.length l.length) s) := ⟨(lastF s (walkV (keysV m l v) (hoodsV m l l.length l.length) s)).toNat, by omega⟩
                rw [← hz] at hlast ⊢
                rw [hoods_at m l l.length z (by omega)]
                have hkl := keysV_length m l (rdL l z)
                have he := (enough (keysV m l (rdL l z)) (l.length - 1) (by omega) (rd (sortI (keysV m l (rdL l z))) (mn l.length l.length - 1))).2 (by rw [show ((l.length - 1 : Nat) : Int) = mn l.length l.length - 1 by unfold mn; split <;> omega]; omega)
                have hle := aroundTo_length (keysV m l (rdL l z)) (rd (sortI (keysV m l (rdL l z))) (mn l.length l.length - 1)) (keysV m l (rdL l z)).length
                show (aroundV _ _).length = _
                unfold aroundV at he ⊢
                omega
              have eN : ∃ b u, graph_Nearest.f m l (hoodsV m l l.length l.length) v s kk = some (b, u, true, 0) := by
                refine ⟨(nearestV m (keysV m l v) (hoodsV m l l.length l.length) s kk l.length).1, (nearestV m (keysV m l v) (hoodsV m l l.length l.length) s kk l.length).2.1, ?_⟩
                unfold graph_Nearest.f
                rw [if_pos (shortB_mk hs1), if_pos ⟨hask1, hk3.1, hk3.2⟩, if_pos ⟨hiOk_of (keysV_bd hal) (keysV_bd hal), hfew.1⟩]
                have : (nearestV m (keysV m l v) (hoodsV m l l.length l.length) s kk l.length).2.2 = true := by
                  unfold nearestV
                  simp only [sortF_length, hfull]
                  split <;> simp
                rw [this]
              obtain ⟨b, u, eN⟩ := eN
              have eI : ∃ b u, graph_Within.f m l (wideV (hoodsV m l l.length l.length)) v s a4 = some (b, u, true, 0) := by
                have hcov : coverF m (keysV m l v) (wideV (hoodsV m l l.length l.length)) a4 s = true := by
                  obtain ⟨z, hz⟩ : ∃ z : Nat, (z : Int) = s := ⟨s.toNat, by omega⟩
                  have hb := keysV_bd (m := m) hal _ (rd_mem (l := keysV m l v) (i := s) hs3.1 (by rw [keysV_length]; exact hs3.2))
                  obtain ⟨y, _, _, _, hy⟩ := high_ex m hb.1 hb.2 (show 0 ≤ a4 by omega) (show a4 ≤ 134217728 by omega)
                  unfold coverF
                  rw [hy]
                  have := high_le hy
                  have e := wide_at (hoodsV m l l.length l.length) z (by rw [hoods_len]; omega)
                  rw [hz] at e
                  rw [e]
                  exact decide_eq_true this
                obtain ⟨rest, hrest⟩ := walkV_cons (keysV m l v) (wideV (hoodsV m l l.length l.length)) s
                refine ⟨(withinV m (keysV m l v) (wideV (hoodsV m l l.length l.length)) s a4).1, (withinV m (keysV m l v) (wideV (hoodsV m l l.length l.length)) s a4).2.1, ?_⟩
                unfold graph_Within.f
                rw [if_pos (shortB_mk hs2), if_pos ⟨hask2, by omega, by omega⟩, if_pos (hiOk_of (keysV_bd hal) (fun y hy => by simp at hy; subst hy; omega))]
                have : (withinV m (keysV m l v) (wideV (hoodsV m l l.length l.length)) s a4).2.2 = true := by
                  unfold withinV
                  rw [hrest, List.find?_cons, hcov]
                rw [this]
              obtain ⟨b2, u2, eI⟩ := eI
              have hfin : ∀ k, kc + 1 ≤ k → antiquarylaw27_GraphOfAllIsSure.l0 k m l v a4 s (hoodsV m l l.length l.length).length (hoodsV m l l.length l.length) (wideV (hoodsV m l l.length l.length)) = some true := by
                intro k hk
                obtain ⟨q, rfl⟩ : ∃ q, k = q + 1 := ⟨k - 1, by omega⟩
                rw [antiquarylaw27_GraphOfAllIsSure.l0, if_neg (by omega), c1 q (by omega), Option.bind_some, eI, Option.bind_some]
                rfl
              obtain ⟨ke, e1⟩ := sure_l0 m l v a4 s (hoodsV m l l.length l.length) (by rw [hoods_len]; exact hl2) (kc + 1) hfin (hoodsV m l l.length l.length).length 0 (by omega)
              refine ⟨k1 + k2 + k3 + ke + 2, ?_⟩
              rw [hpre _ (by omega), ha, if_pos rfl, if_neg ct0, decide_eq_false ct1, antiquarylaw27_GraphOfAllIsSure.j0, if_neg (by simp), if_neg (by omega), build_ok m l l.length hr (by omega) (by omega), Option.bind_some, ← hs, ← hkk, eW, Option.bind_some, eN, Option.bind_some, if_pos rfl, if_pos rfl, if_pos rfl, if_neg (by show ¬ ((walkV (keysV m l v) (hoodsV m l l.length l.length) s).length : Int) > 2; omega), antiquarylaw27_GraphOfAllIsSure.j1, if_neg (by simp)]
              exact up_le (f := fun k => antiquarylaw27_GraphOfAllIsSure.l0 k m l v a4 s 0 (hoodsV m l l.length l.length) []) (fun k => (antiquarylaw27_GraphOfAllIsSure.mono_l k).2.2 _ _ _ _ _ _ _ _) e1 (by omega)
    · refine ⟨k1 + 1, ?_⟩
      unfold antiquarylaw27_GraphOfAllIsSure.f
      rw [up_le (antiquaryref09_Few.mono _ _) f1 (show k1 ≤ k1 + 1 by omega), Option.bind_some, if_pos rfl, metric09, Option.bind_some, decide_eq_false c, if_neg (by simp)]
      exact hj0 k1
end Go.Proofs.Ythbkomkgciemiaa.PKM
