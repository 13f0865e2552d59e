/- Texts of this claim, merged: part 11. -/
import Derived.Test.YthbkomkgciemiaaCW3
import Derived.Test.YthbkomkgciemiaaCW5
import Derived.Test.YthbkomkgciemiaaCW6
import Derived.Test.YthbkomkgciemiaaCW7
import Derived.Test.YthbkomkgciemiaaCW4
import Derived.Test.YthbkomkgciemiaaCW10
-- by hp.py over the kit's print (stubs proved by hand)
namespace Go.Proofs.Ythbkomkgciemiaa.PKM
open Go.RowKit Go.Proofs.YthbkomkgciemiaaW.PrintWords Go.Proofs.YthbkomkgciemiaaW.PrintLast Go.Proofs.YthbkomkgciemiaaW.PrintMore
attribute [local go_sem] max2_int min2_int max_two min_two max_three min_three max_four min_four   -- for this text's walks alone
set_option linter.unusedVariables false
set_option linter.unusedSimpArgs false

-- STAGE 4 lawWD
/-! ### lawWD: function 3 -/
mutual
def lawWD.j0 : Nat → Int → List (List Int) → List Int → Int → Int → Int → Bool → List (S39) → Option (Bool)
  | 0, _, _, _, _, _, _, _, _ => none
  | k + 1, x0, x1, x3, x4, x5, x6, x63, x205000 => if x63 = true then ((antiquarylaw27_sanity.f).bind fun t210 => (some t210)) else (if (x1.length : Int) = 0 then (none) else ((graph_Walk.f x0 x1 x205000 x3 (Int.tmod (wrap64 (x4)) (x1.length : Int))).bind fun bt211 => ((graph_Within.f x0 x1 x205000 x3 (Int.tmod (wrap64 (x4)) (x1.length : Int)) x5).bind fun bt215 => ((graph_Nearest.f x0 x1 x205000 x3 (Int.tmod (wrap64 (x4)) (x1.length : Int)) (wrap64 (1 + (Int.tmod (wrap64 (x6)) 64)))).bind fun bt221 => (if bt211.2 = 0 then (if bt215.2.2.2 = 0 then (if bt221.2.2.2 = 0 then (if (bt211.1.length : Int) = 0 then (lawWD.j1 k x0 x1 x3 bt211.1 bt215.2.1 true x205000) else (if (bt211.1.length : Int) > (x1.length : Int) then (lawWD.j1 k x0 x1 x3 bt211.1 bt215.2.1 true x205000) else (if 0 < (bt211.1.length : Int) then (if (rd bt211.1 0) = (Int.tmod (wrap64 (x4)) (x1.length : Int)) then (if 0 ≤ (wrap64 ((bt211.1.length : Int) - 1)) then (if (wrap64 ((bt211.1.length : Int) - 1)) < (bt211.1.length : Int) then (lawWD.j1 k x0 x1 x3 bt211.1 bt215.2.1 ((rd bt211.1 (wrap64 ((bt211.1.length : Int) - 1))) != bt221.2.1) x205000) else (none)) else (none)) else (lawWD.j1 k x0 x1 x3 bt211.1 bt215.2.1 true x205000)) else (none)))) else (lawWD.j1 k x0 x1 x3 bt211.1 bt215.2.1 true x205000)) else (lawWD.j1 k x0 x1 x3 bt211.1 bt215.2.1 true x205000)) else (lawWD.j1 k x0 x1 x3 bt211.1 bt215.2.1 true x205000))))))
def lawWD.j1 : Nat → Int → List (List Int) → List Int → List Int → Int → Bool → List (S39) → Option (Bool)
  | 0, _, _, _, _, _, _, _ => none
  | k + 1, x0, x1, x3, x16, x19, x144, x205000 => if x144 = true then (some false) else (lawWD.l0 k x0 x1 x3 x16 x19 false 0 x205000)
def lawWD.l0 : Nat → Int → List (List Int) → List Int → List Int → Int → Bool → Int → List (S39) → Option (Bool)
  | 0, _, _, _, _, _, _, _, _ => none
  | k + 1, x0, x1, x3, x16, x19, x26, x27, x205000 => if x27 < (x16.length : Int) then (if 0 ≤ x27 then (if (rd x16 x27) < 0 then (lawWD.j3 k x0 x1 x3 x16 x19 x26 x27 true x205000) else (lawWD.j3 k x0 x1 x3 x16 x19 x26 x27 (decide ((rd x16 x27) ≥ (x1.length : Int))) x205000)) else (none)) else ((antiquarylaw27_sanity.f).bind fun t229 => (if t229 = true then (some x26) else (some false)))
def lawWD.j3 : Nat → Int → List (List Int) → List Int → List Int → Int → Bool → Int → Bool → List (S39) → Option (Bool)
  | 0, _, _, _, _, _, _, _, _, _ => none
  | k + 1, x0, x1, x3, x16, x19, x26, x27, x164, x205000 => if x164 = true then (some false) else (if x26 = true then (lawWD.j4 k x0 x1 x3 x16 x19 true x27 x205000) else (if 0 ≤ x27 then (if x27 < (x16.length : Int) then (lawWD.j4 k x0 x1 x3 x16 x19 ((rd x16 x27) == x19) x27 x205000) else (none)) else (none)))
def lawWD.j4 : Nat → Int → List (List Int) → List Int → List Int → Int → Bool → Int → List (S39) → Option (Bool)
  | 0, _, _, _, _, _, _, _, _ => none
  | k + 1, x0, x1, x3, x16, x19, x26, x27, x205000 => if 0 ≤ x27 then (if x27 < (x16.length : Int) then (if 0 ≤ (rd x16 x27) then (if (rd x16 x27) < (x1.length : Int) then ((vector_Key.f k x0 (rd_L1 x1 (rd x16 x27)) x3).bind fun t235 => (lawWD.l1 k x0 x1 x3 x16 x19 x26 x27 t235 false 0 x205000)) else (none)) else (none)) else (none)) else (none)
def lawWD.l1 : Nat → Int → List (List Int) → List Int → List Int → Int → Bool → Int → Int → Bool → Int → List (S39) → Option (Bool)
  | 0, _, _, _, _, _, _, _, _, _, _, _ => none
  | k + 1, x0, x1, x3, x16, x19, x26, x27, x28, x29, x30, x205000 => if 0 ≤ x27 then (if x27 < (x16.length : Int) then (if 0 ≤ (rd x16 x27) then (if (rd x16 x27) < (x205000.length : Int) then (if x30 < (((rd_T39 x205000 (rd x16 x27)).f1).length : Int) then (if 0 ≤ x30 then (if 0 ≤ (rd ((rd_T39 x205000 (rd x16 x27)).f1) x30) then (if (rd ((rd_T39 x205000 (rd x16 x27)).f1) x30) < (x1.length : Int) then ((vector_Key.f k x0 (rd_L1 x1 (rd ((rd_T39 x205000 (rd x16 x27)).f1) x30)) x3).bind fun t242 => (if t242 < x28 then (if x27 = (wrap64 ((x16.length : Int) - 1)) then (some false) else (if x29 = true then (lawWD.l1 k x0 x1 x3 x16 x19 x26 x27 x28 true (wrap64 (x30 + 1)) x205000) else (if x27 < (wrap64 ((x16.length : Int) - 1)) then (if 0 ≤ (wrap64 (x27 + 1)) then (if (wrap64 (x27 + 1)) < (x16.length : Int) then (lawWD.l1 k x0 x1 x3 x16 x19 x26 x27 x28 ((rd ((rd_T39 x205000 (rd x16 x27)).f1) x30) == (rd x16 (wrap64 (x27 + 1)))) (wrap64 (x30 + 1)) x205000) else (none)) else (none)) else (lawWD.l1 k x0 x1 x3 x16 x19 x26 x27 x28 false (wrap64 (x30 + 1)) x205000)))) else (if x29 = true then (lawWD.l1 k x0 x1 x3 x16 x19 x26 x27 x28 true (wrap64 (x30 + 1)) x205000) else (lawWD.l1 k x0 x1 x3 x16 x19 x26 x27 x28 false (wrap64 (x30 + 1)) x205000)))) else (none)) else (none)) else (none)) else (if x27 < (wrap64 ((x16.length : Int) - 1)) then (if x29 = true then (lawWD.l0 k x0 x1 x3 x16 x19 x26 (wrap64 (x27 + 1)) x205000) else (some false)) else (lawWD.l0 k x0 x1 x3 x16 x19 x26 (wrap64 (x27 + 1)) x205000))) else (none)) else (none)) else (none)) else (none)
end
def lawWD.f (k : Nat) (a0 : Int) (l1 : List (List Int)) (l2_0 : List (S39)) (l3 : List Int) (a4 : Int) (a5 : Int) (a6 : Int) : Option (Bool) := (antiquaryref09_Few.f k l1 25).bind fun t205 => (if t205 = true then ((antiquaryref27_Few.f k l2_0).bind fun t206 => (if t206 = true then ((antiquaryref27_Right.f k a0 l1 l2_0).bind fun t207 => (if t207 = true then (if 0 < (l1.length : Int) then ((antiquaryref04_Alike.f k (rd_L1 l1 0) l3).bind fun t209 => (if t209 = true then (if a5 < 0 then (lawWD.j0 k a0 l1 l3 a4 a5 a6 true l2_0) else (lawWD.j0 k a0 l1 l3 a4 a5 a6 (decide (a5 > 134217728)) l2_0)) else (lawWD.j0 k a0 l1 l3 a4 a5 a6 true l2_0))) else (none)) else (lawWD.j0 k a0 l1 l3 a4 a5 a6 true l2_0))) else (lawWD.j0 k a0 l1 l3 a4 a5 a6 true l2_0))) else (lawWD.j0 k a0 l1 l3 a4 a5 a6 true l2_0))
theorem lawWD.mono_l : ∀ k, (∀ y0 y1 y2 y3 y4 y5 y6 y7, LeO (lawWD.j0 k y0 y1 y2 y3 y4 y5 y6 y7) (lawWD.j0 (k + 1) y0 y1 y2 y3 y4 y5 y6 y7)) ∧ (∀ y0 y1 y2 y3 y4 y5 y6, LeO (lawWD.j1 k y0 y1 y2 y3 y4 y5 y6) (lawWD.j1 (k + 1) y0 y1 y2 y3 y4 y5 y6)) ∧ (∀ y0 y1 y2 y3 y4 y5 y6 y7, LeO (lawWD.l0 k y0 y1 y2 y3 y4 y5 y6 y7) (lawWD.l0 (k + 1) y0 y1 y2 y3 y4 y5 y6 y7)) ∧ (∀ y0 y1 y2 y3 y4 y5 y6 y7 y8, LeO (lawWD.j3 k y0 y1 y2 y3 y4 y5 y6 y7 y8) (lawWD.j3 (k + 1) y0 y1 y2 y3 y4 y5 y6 y7 y8)) ∧ (∀ y0 y1 y2 y3 y4 y5 y6 y7, LeO (lawWD.j4 k y0 y1 y2 y3 y4 y5 y6 y7) (lawWD.j4 (k + 1) y0 y1 y2 y3 y4 y5 y6 y7)) ∧ (∀ y0 y1 y2 y3 y4 y5 y6 y7 y8 y9 y10, LeO (lawWD.l1 k y0 y1 y2 y3 y4 y5 y6 y7 y8 y9 y10) (lawWD.l1 (k + 1) y0 y1 y2 y3 y4 y5 y6 y7 y8 y9 y10))
  | 0 => ⟨fun _ _ _ _ _ _ _ _ r h => by simp [lawWD.j0] at h, fun _ _ _ _ _ _ _ r h => by simp [lawWD.j1] at h, fun _ _ _ _ _ _ _ _ r h => by simp [lawWD.l0] at h, fun _ _ _ _ _ _ _ _ _ r h => by simp [lawWD.j3] at h, fun _ _ _ _ _ _ _ _ r h => by simp [lawWD.j4] at h, fun _ _ _ _ _ _ _ _ _ _ _ r h => by simp [lawWD.l1] at h⟩
  | k + 1 => by
    obtain ⟨ih0, ih1, ih2, ih3, ih4, ih5⟩ := lawWD.mono_l k
    refine ⟨?_, ?_, ?_, ?_, ?_, ?_⟩
    · intro y0 y1 y2 y3 y4 y5 y6 y7
      unfold lawWD.j0
      repeat' first
      | (with_reducible exact ih0 _ _ _ _ _ _ _ _)
      | (with_reducible exact ih1 _ _ _ _ _ _ _)
      | (with_reducible exact ih2 _ _ _ _ _ _ _ _)
      | (with_reducible exact ih3 _ _ _ _ _ _ _ _ _)
      | (with_reducible exact ih4 _ _ _ _ _ _ _ _)
      | (with_reducible exact ih5 _ _ _ _ _ _ _ _ _ _ _)
      | (with_reducible exact antiquaryref04_Alike.mono _ _ _)
      | (with_reducible exact antiquaryref09_Few.mono _ _ _)
      | (with_reducible exact antiquaryref27_Few.mono _ _)
      | (with_reducible exact antiquaryref27_Right.mono _ _ _ _)
      | (with_reducible exact vector_Key.mono _ _ _ _)
      | (with_reducible exact LeO.refl _)
      | (with_reducible exact LeO.none _)
      | (with_reducible refine LeO.ite ?_ ?_)
      | (with_reducible refine LeO.bind ?_ (fun _ => ?_))
      | exact ih0 _ _ _ _ _ _ _ _
      | exact ih1 _ _ _ _ _ _ _
      | exact ih2 _ _ _ _ _ _ _ _
      | exact ih3 _ _ _ _ _ _ _ _ _
      | exact ih4 _ _ _ _ _ _ _ _
      | exact ih5 _ _ _ _ _ _ _ _ _ _ _
      | exact antiquaryref04_Alike.mono _ _ _
      | exact antiquaryref09_Few.mono _ _ _
      | exact antiquaryref27_Few.mono _ _
      | exact antiquaryref27_Right.mono _ _ _ _
      | exact vector_Key.mono _ _ _ _
      | exact LeO.none _
      | refine LeO.ite ?_ ?_
      | refine LeO.bind ?_ (fun _ => ?_)
    · intro y0 y1 y2 y3 y4 y5 y6
      unfold lawWD.j1
      repeat' first
      | (with_reducible exact ih0 _ _ _ _ _ _ _ _)
      | (with_reducible exact ih1 _ _ _ _ _ _ _)
      | (with_reducible exact ih2 _ _ _ _ _ _ _ _)
      | (with_reducible exact ih3 _ _ _ _ _ _ _ _ _)
      | (with_reducible exact ih4 _ _ _ _ _ _ _ _)
      | (with_reducible exact ih5 _ _ _ _ _ _ _ _ _ _ _)
      | (with_reducible exact antiquaryref04_Alike.mono _ _ _)
      | (with_reducible exact antiquaryref09_Few.mono _ _ _)
      | (with_reducible exact antiquaryref27_Few.mono _ _)
      | (with_reducible exact antiquaryref27_Right.mono _ _ _ _)
      | (with_reducible exact vector_Key.mono _ _ _ _)
      | (with_reducible exact LeO.refl _)
      | (with_reducible exact LeO.none _)
      | (with_reducible refine LeO.ite ?_ ?_)
      | (with_reducible refine LeO.bind ?_ (fun _ => ?_))
      | exact ih0 _ _ _ _ _ _ _ _
      | exact ih1 _ _ _ _ _ _ _
      | exact ih2 _ _ _ _ _ _ _ _
      | exact ih3 _ _ _ _ _ _ _ _ _
      | exact ih4 _ _ _ _ _ _ _ _
      | exact ih5 _ _ _ _ _ _ _ _ _ _ _
      | exact antiquaryref04_Alike.mono _ _ _
      | exact antiquaryref09_Few.mono _ _ _
      | exact antiquaryref27_Few.mono _ _
      | exact antiquaryref27_Right.mono _ _ _ _
      | exact vector_Key.mono _ _ _ _
      | exact LeO.none _
      | refine LeO.ite ?_ ?_
      | refine LeO.bind ?_ (fun _ => ?_)
    · intro y0 y1 y2 y3 y4 y5 y6 y7
      unfold lawWD.l0
      repeat' first
      | (with_reducible exact ih0 _ _ _ _ _ _ _ _)
      | (with_reducible exact ih1 _ _ _ _ _ _ _)
      | (with_reducible exact ih2 _ _ _ _ _ _ _ _)
      | (with_reducible exact ih3 _ _ _ _ _ _ _ _ _)
      | (with_reducible exact ih4 _ _ _ _ _ _ _ _)
      | (with_reducible exact ih5 _ _ _ _ _ _ _ _ _ _ _)
      | (with_reducible exact antiquaryref04_Alike.mono _ _ _)
      | (with_reducible exact antiquaryref09_Few.mono _ _ _)
      | (with_reducible exact antiquaryref27_Few.mono _ _)
      | (with_reducible exact antiquaryref27_Right.mono _ _ _ _)
      | (with_reducible exact vector_Key.mono _ _ _ _)
      | (with_reducible exact LeO.refl _)
      | (with_reducible exact LeO.none _)
      | (with_reducible refine LeO.ite ?_ ?_)
      | (with_reducible refine LeO.bind ?_ (fun _ => ?_))
      | exact ih0 _ _ _ _ _ _ _ _
      | exact ih1 _ _ _ _ _ _ _
      | exact ih2 _ _ _ _ _ _ _ _
      | exact ih3 _ _ _ _ _ _ _ _ _
      | exact ih4 _ _ _ _ _ _ _ _
      | exact ih5 _ _ _ _ _ _ _ _ _ _ _
      | exact antiquaryref04_Alike.mono _ _ _
      | exact antiquaryref09_Few.mono _ _ _
      | exact antiquaryref27_Few.mono _ _
      | exact antiquaryref27_Right.mono _ _ _ _
      | exact vector_Key.mono _ _ _ _
      | exact LeO.none _
      | refine LeO.ite ?_ ?_
      | refine LeO.bind ?_ (fun _ => ?_)
    · intro y0 y1 y2 y3 y4 y5 y6 y7 y8
      unfold lawWD.j3
      repeat' first
      | (with_reducible exact ih0 _ _ _ _ _ _ _ _)
      | (with_reducible exact ih1 _ _ _ _ _ _ _)
      | (with_reducible exact ih2 _ _ _ _ _ _ _ _)
      | (with_reducible exact ih3 _ _ _ _ _ _ _ _ _)
      | (with_reducible exact ih4 _ _ _ _ _ _ _ _)
      | (with_reducible exact ih5 _ _ _ _ _ _ _ _ _ _ _)
      | (with_reducible exact antiquaryref04_Alike.mono _ _ _)
      | (with_reducible exact antiquaryref09_Few.mono _ _ _)
      | (with_reducible exact antiquaryref27_Few.mono _ _)
      | (with_reducible exact antiquaryref27_Right.mono _ _ _ _)
      | (with_reducible exact vector_Key.mono _ _ _ _)
      | (with_reducible exact LeO.refl _)
      | (with_reducible exact LeO.none _)
      | (with_reducible refine LeO.ite ?_ ?_)
      | (with_reducible refine LeO.bind ?_ (fun _ => ?_))
      | exact ih0 _ _ _ _ _ _ _ _
      | exact ih1 _ _ _ _ _ _ _
      | exact ih2 _ _ _ _ _ _ _ _
      | exact ih3 _ _ _ _ _ _ _ _ _
      | exact ih4 _ _ _ _ _ _ _ _
      | exact ih5 _ _ _ _ _ _ _ _ _ _ _
      | exact antiquaryref04_Alike.mono _ _ _
      | exact antiquaryref09_Few.mono _ _ _
      | exact antiquaryref27_Few.mono _ _
      | exact antiquaryref27_Right.mono _ _ _ _
      | exact vector_Key.mono _ _ _ _
      | exact LeO.none _
      | refine LeO.ite ?_ ?_
      | refine LeO.bind ?_ (fun _ => ?_)
    · intro y0 y1 y2 y3 y4 y5 y6 y7
      unfold lawWD.j4
      repeat' first
      | (with_reducible exact ih0 _ _ _ _ _ _ _ _)
      | (with_reducible exact ih1 _ _ _ _ _ _ _)
      | (with_reducible exact ih2 _ _ _ _ _ _ _ _)
      | (with_reducible exact ih3 _ _ _ _ _ _ _ _ _)
      | (with_reducible exact ih4 _ _ _ _ _ _ _ _)
      | (with_reducible exact ih5 _ _ _ _ _ _ _ _ _ _ _)
      | (with_reducible exact antiquaryref04_Alike.mono _ _ _)
      | (with_reducible exact antiquaryref09_Few.mono _ _ _)
      | (with_reducible exact antiquaryref27_Few.mono _ _)
      | (with_reducible exact antiquaryref27_Right.mono _ _ _ _)
      | (with_reducible exact vector_Key.mono _ _ _ _)
      | (with_reducible exact LeO.refl _)
      | (with_reducible exact LeO.none _)
      | (with_reducible refine LeO.ite ?_ ?_)
      | (with_reducible refine LeO.bind ?_ (fun _ => ?_))
      | exact ih0 _ _ _ _ _ _ _ _
      | exact ih1 _ _ _ _ _ _ _
      | exact ih2 _ _ _ _ _ _ _ _
      | exact ih3 _ _ _ _ _ _ _ _ _
      | exact ih4 _ _ _ _ _ _ _ _
      | exact ih5 _ _ _ _ _ _ _ _ _ _ _
      | exact antiquaryref04_Alike.mono _ _ _
      | exact antiquaryref09_Few.mono _ _ _
      | exact antiquaryref27_Few.mono _ _
      | exact antiquaryref27_Right.mono _ _ _ _
      | exact vector_Key.mono _ _ _ _
      | exact LeO.none _
      | refine LeO.ite ?_ ?_
      | refine LeO.bind ?_ (fun _ => ?_)
    · intro y0 y1 y2 y3 y4 y5 y6 y7 y8 y9 y10
      unfold lawWD.l1
      repeat' first
      | (with_reducible exact ih0 _ _ _ _ _ _ _ _)
      | (with_reducible exact ih1 _ _ _ _ _ _ _)
      | (with_reducible exact ih2 _ _ _ _ _ _ _ _)
      | (with_reducible exact ih3 _ _ _ _ _ _ _ _ _)
      | (with_reducible exact ih4 _ _ _ _ _ _ _ _)
      | (with_reducible exact ih5 _ _ _ _ _ _ _ _ _ _ _)
      | (with_reducible exact antiquaryref04_Alike.mono _ _ _)
      | (with_reducible exact antiquaryref09_Few.mono _ _ _)
      | (with_reducible exact antiquaryref27_Few.mono _ _)
      | (with_reducible exact antiquaryref27_Right.mono _ _ _ _)
      | (with_reducible exact vector_Key.mono _ _ _ _)
      | (with_reducible exact LeO.refl _)
      | (with_reducible exact LeO.none _)
      | (with_reducible refine LeO.ite ?_ ?_)
      | (with_reducible refine LeO.bind ?_ (fun _ => ?_))
      | exact ih0 _ _ _ _ _ _ _ _
      | exact ih1 _ _ _ _ _ _ _
      | exact ih2 _ _ _ _ _ _ _ _
      | exact ih3 _ _ _ _ _ _ _ _ _
      | exact ih4 _ _ _ _ _ _ _ _
      | exact ih5 _ _ _ _ _ _ _ _ _ _ _
      | exact antiquaryref04_Alike.mono _ _ _
      | exact antiquaryref09_Few.mono _ _ _
      | exact antiquaryref27_Few.mono _ _
      | exact antiquaryref27_Right.mono _ _ _ _
      | exact vector_Key.mono _ _ _ _
      | exact LeO.none _
      | refine LeO.ite ?_ ?_
      | refine LeO.bind ?_ (fun _ => ?_)
theorem lawWD.mono : ∀ a0 a1 a2 a3 a4 a5 a6 k, LeO (lawWD.f k a0 a1 a2 a3 a4 a5 a6) (lawWD.f (k + 1) a0 a1 a2 a3 a4 a5 a6) := by
  intro a0 a1 a2 a3 a4 a5 a6 k
  obtain ⟨ih0, ih1, ih2, ih3, ih4, ih5⟩ := lawWD.mono_l k
  unfold lawWD.f
  repeat' first
      | (with_reducible exact ih0 _ _ _ _ _ _ _ _)
      | (with_reducible exact ih1 _ _ _ _ _ _ _)
      | (with_reducible exact ih2 _ _ _ _ _ _ _ _)
      | (with_reducible exact ih3 _ _ _ _ _ _ _ _ _)
      | (with_reducible exact ih4 _ _ _ _ _ _ _ _)
      | (with_reducible exact ih5 _ _ _ _ _ _ _ _ _ _ _)
      | (with_reducible exact antiquaryref04_Alike.mono _ _ _)
      | (with_reducible exact antiquaryref09_Few.mono _ _ _)
      | (with_reducible exact antiquaryref27_Few.mono _ _)
      | (with_reducible exact antiquaryref27_Right.mono _ _ _ _)
      | (with_reducible exact vector_Key.mono _ _ _ _)
      | (with_reducible exact LeO.refl _)
      | (with_reducible exact LeO.none _)
      | (with_reducible refine LeO.ite ?_ ?_)
      | (with_reducible refine LeO.bind ?_ (fun _ => ?_))
      | exact ih0 _ _ _ _ _ _ _ _
      | exact ih1 _ _ _ _ _ _ _
      | exact ih2 _ _ _ _ _ _ _ _
      | exact ih3 _ _ _ _ _ _ _ _ _
      | exact ih4 _ _ _ _ _ _ _ _
      | exact ih5 _ _ _ _ _ _ _ _ _ _ _
      | exact antiquaryref04_Alike.mono _ _ _
      | exact antiquaryref09_Few.mono _ _ _
      | exact antiquaryref27_Few.mono _ _
      | exact antiquaryref27_Right.mono _ _ _ _
      | exact vector_Key.mono _ _ _ _
      | exact LeO.none _
      | refine LeO.ite ?_ ?_
      | refine LeO.bind ?_ (fun _ => ?_)
set_option maxHeartbeats 8000000 in
set_option maxRecDepth 100000 in
theorem lawWD.calls (k : Nat) (a0 : Int) (A1 : Option Addr) (c1 : Nat) (l1 : List (List Int)) (A2_0 : Option Addr) (c2_0 : Nat) (l2_0 : List (S39)) (A3 : Option Addr) (c3 : Nat) (l3 : List Int) (a4 : Int) (a5 : Int) (a6 : Int) (r : Bool) (w : World) (hr1 : Kd.C (Kd.slice 3 (Kd.int .i64)) w A1 l1.length l1) (hc1 : l1.length ≤ c1) (hr2_0 : Kd.C k39 w A2_0 l2_0.length l2_0) (hc2_0 : l2_0.length ≤ c2_0) (hr3 : Kd.C (Kd.int .i64) w A3 l3.length l3) (hc3 : l3.length ≤ c3) (h : lawWD.f k a0 l1 l2_0 l3 a4 a5 a6 = some r) :
    Calls Try.prog 3 #[.int .i64 a0, .slice A1 l1.length c1, .agg #[.slice A2_0 l2_0.length c2_0], .slice A3 l3.length c3, .int .u8 a4, .int .i64 a5, .int .u8 a6] w fun e w' => e = .returned (.bool r) ∧ Below w.heap.size w w' := by
  have hu25 := Try.underlying25
  have HR1 := Aside0.mk hr1
  have HC1 := Aside0.mk hc1
  clear hr1 hc1
  have HR2_0 := Aside0.mk hr2_0
  have HC2_0 := Aside0.mk hc2_0
  clear hr2_0 hc2_0
  have HR3 := Aside0.mk hr3
  have HC3 := Aside0.mk hc3
  clear hr3 hc3
  have HB := Aside0.mk (Below.refl w.heap.size w)
  have H : ((antiquaryref09_Few.f k l1 25).bind fun t205 => (if t205 = true then ((antiquaryref27_Few.f k l2_0).bind fun t206 => (if t206 = true then ((antiquaryref27_Right.f k a0 l1 l2_0).bind fun t207 => (if t207 = true then (if 0 < (l1.length : Int) then ((antiquaryref04_Alike.f k (rd_L1 l1 0) l3).bind fun t209 => (if t209 = true then (if a5 < 0 then (lawWD.j0 k a0 l1 l3 a4 a5 a6 true l2_0) else (lawWD.j0 k a0 l1 l3 a4 a5 a6 (decide (a5 > 134217728)) l2_0)) else (lawWD.j0 k a0 l1 l3 a4 a5 a6 true l2_0))) else (none)) else (lawWD.j0 k a0 l1 l3 a4 a5 a6 true l2_0))) else (lawWD.j0 k a0 l1 l3 a4 a5 a6 true l2_0))) else (lawWD.j0 k a0 l1 l3 a4 a5 a6 true l2_0))) = some r := h
  clear h
  have HC8 := Aside0.mk H
  clear H
  go_enter Try.func3, Try.ntmps3
  go_upto_region 1 with (first | ((with_reducible refine gate_dst (N := 9) rfl ?_); (try (refine gate_guard (by rfl) ?_; dsimp only)); refine box_event ?hg (N := 9) ?hd (cs := #[.slice A2_0 l2_0.length c2_0]) (t := 25) ?hr ?_; (case hd => rfl); (case hg => rfl); (case hr => first | (go_simp; done) | (go_simp; rfl)); intro gb204 hg w9 hbox hb; have n0_ := Aside0.mk (below_step (by repeat (first | (with_reducible first | exact HB.out | apply below_alloc | apply pw_below_drewN | apply below_drew1) | exact HB.out)) hb); have n1_ := Aside0.mk (hbox); have n2_ := Aside0.mk ((by rw [hg]; exact (below_size (by repeat (first | (with_reducible first | exact HB.out | apply below_alloc | apply pw_below_drewN | apply below_drew1) | exact HB.out))) : w.heap.size ≤ gb204)); have n3_ := Aside0.mk ((by rw [hg]; exact (below_size (by repeat (first | (with_reducible first | exact HB.out | apply below_alloc | apply pw_below_drewN | apply below_drew1) | exact HB.out))) : w.heap.size ≤ gb204)); clear HB; have HB := n0_; have BK204 := n1_; have GW204 := n2_; have GE204 := n3_; clear n0_ n1_ n2_ n3_; clear hb hbox hg))
  repeat (go_quiet (first | ((with_reducible refine gate_dst (N := 9) rfl ?_); (try (refine gate_guard (by rfl) ?_; dsimp only)); refine box_event ?hg (N := 9) ?hd (cs := #[.slice A2_0 l2_0.length c2_0]) (t := 25) ?hr ?_; (case hd => rfl); (case hg => rfl); (case hr => first | (go_simp; done) | (go_simp; rfl)); intro gb204 hg w9 hbox hb; have n0_ := Aside0.mk (below_step (by repeat (first | (with_reducible first | exact HB.out | apply below_alloc | apply pw_below_drewN | apply below_drew1) | exact HB.out)) hb); have n1_ := Aside0.mk (hbox); have n2_ := Aside0.mk ((by rw [hg]; exact (below_size (by repeat (first | (with_reducible first | exact HB.out | apply below_alloc | apply pw_below_drewN | apply below_drew1) | exact HB.out))) : w.heap.size ≤ gb204)); have n3_ := Aside0.mk ((by rw [hg]; exact (below_size (by repeat (first | (with_reducible first | exact HB.out | apply below_alloc | apply pw_below_drewN | apply below_drew1) | exact HB.out))) : w.heap.size ≤ gb204)); clear HB; have HB := n0_; have BK204 := n1_; have GW204 := n2_; have GE204 := n3_; clear n0_ n1_ n2_ n3_; clear hb hbox hg)); go_upto_region 1 with (first | ((with_reducible refine gate_dst (N := 9) rfl ?_); (try (refine gate_guard (by rfl) ?_; dsimp only)); refine box_event ?hg (N := 9) ?hd (cs := #[.slice A2_0 l2_0.length c2_0]) (t := 25) ?hr ?_; (case hd => rfl); (case hg => rfl); (case hr => first | (go_simp; done) | (go_simp; rfl)); intro gb204 hg w9 hbox hb; have n0_ := Aside0.mk (below_step (by repeat (first | (with_reducible first | exact HB.out | apply below_alloc | apply pw_below_drewN | apply below_drew1) | exact HB.out)) hb); have n1_ := Aside0.mk (hbox); have n2_ := Aside0.mk ((by rw [hg]; exact (below_size (by repeat (first | (with_reducible first | exact HB.out | apply below_alloc | apply pw_below_drewN | apply below_drew1) | exact HB.out))) : w.heap.size ≤ gb204)); have n3_ := Aside0.mk ((by rw [hg]; exact (below_size (by repeat (first | (with_reducible first | exact HB.out | apply below_alloc | apply pw_below_drewN | apply below_drew1) | exact HB.out))) : w.heap.size ≤ gb204)); clear HB; have HB := n0_; have BK204 := n1_; have GW204 := n2_; have GE204 := n3_; clear n0_ n1_ n2_ n3_; clear hb hbox hg)))
  (try simp only [Act.put, List.setIfInBounds_toArray, List.set_cons_zero, List.set_cons_succ])
  go_cut [63] (fun v63 wc => ∃ (kq : Nat) (x63_7 : Bool), v63 = .bool x63_7 ∧ Aside0 (lawWD.j0 kq a0 l1 l3 a4 a5 a6 x63_7 l2_0 = some r) ∧ Aside0 (kq ≤ k) ∧ Aside0 (wc.heap[gb204]? = some (.cells #[(.slice A2_0 l2_0.length c2_0)] 25 (0, 0))) ∧ Aside0 (Below w.heap.size w wc))
  case first => as_aux_lemma =>
    have H := HC8.out
    clear HC8
    replace H := Option.bind_eq_some_iff.mp H
    obtain ⟨t205, A100, H⟩ := H
    replace H : (if t205 = true then ((antiquaryref27_Few.f k l2_0).bind fun t206 => (if t206 = true then ((antiquaryref27_Right.f k a0 l1 l2_0).bind fun t207 => (if t207 = true then (if 0 < (l1.length : Int) then ((antiquaryref04_Alike.f k (rd_L1 l1 0) l3).bind fun t209 => (if t209 = true then (if a5 < 0 then (lawWD.j0 k a0 l1 l3 a4 a5 a6 true l2_0) else (lawWD.j0 k a0 l1 l3 a4 a5 a6 (decide (a5 > 134217728)) l2_0)) else (lawWD.j0 k a0 l1 l3 a4 a5 a6 true l2_0))) else (none)) else (lawWD.j0 k a0 l1 l3 a4 a5 a6 true l2_0))) else (lawWD.j0 k a0 l1 l3 a4 a5 a6 true l2_0))) else (lawWD.j0 k a0 l1 l3 a4 a5 a6 true l2_0)) = some r := H
    have A10 := Aside0.mk A100
    clear A100
    by_cases c11 : t205 = true
    · subst c11
      have H1 : ((antiquaryref27_Few.f k l2_0).bind fun t206 => (if t206 = true then ((antiquaryref27_Right.f k a0 l1 l2_0).bind fun t207 => (if t207 = true then (if 0 < (l1.length : Int) then ((antiquaryref04_Alike.f k (rd_L1 l1 0) l3).bind fun t209 => (if t209 = true then (if a5 < 0 then (lawWD.j0 k a0 l1 l3 a4 a5 a6 true l2_0) else (lawWD.j0 k a0 l1 l3 a4 a5 a6 (decide (a5 > 134217728)) l2_0)) else (lawWD.j0 k a0 l1 l3 a4 a5 a6 true l2_0))) else (none)) else (lawWD.j0 k a0 l1 l3 a4 a5 a6 true l2_0))) else (lawWD.j0 k a0 l1 l3 a4 a5 a6 true l2_0))) = some r := by rw [if_pos rfl] at H; exact H
      clear H
      have H := H1
      clear H1
      replace H := Option.bind_eq_some_iff.mp H
      obtain ⟨t206, A120, H⟩ := H
      replace H : (if t206 = true then ((antiquaryref27_Right.f k a0 l1 l2_0).bind fun t207 => (if t207 = true then (if 0 < (l1.length : Int) then ((antiquaryref04_Alike.f k (rd_L1 l1 0) l3).bind fun t209 => (if t209 = true then (if a5 < 0 then (lawWD.j0 k a0 l1 l3 a4 a5 a6 true l2_0) else (lawWD.j0 k a0 l1 l3 a4 a5 a6 (decide (a5 > 134217728)) l2_0)) else (lawWD.j0 k a0 l1 l3 a4 a5 a6 true l2_0))) else (none)) else (lawWD.j0 k a0 l1 l3 a4 a5 a6 true l2_0))) else (lawWD.j0 k a0 l1 l3 a4 a5 a6 true l2_0)) = some r := H
      have A12 := Aside0.mk A120
      clear A120
      by_cases c13 : t206 = true
      · subst c13
        have H1 : ((antiquaryref27_Right.f k a0 l1 l2_0).bind fun t207 => (if t207 = true then (if 0 < (l1.length : Int) then ((antiquaryref04_Alike.f k (rd_L1 l1 0) l3).bind fun t209 => (if t209 = true then (if a5 < 0 then (lawWD.j0 k a0 l1 l3 a4 a5 a6 true l2_0) else (lawWD.j0 k a0 l1 l3 a4 a5 a6 (decide (a5 > 134217728)) l2_0)) else (lawWD.j0 k a0 l1 l3 a4 a5 a6 true l2_0))) else (none)) else (lawWD.j0 k a0 l1 l3 a4 a5 a6 true l2_0))) = some r := by rw [if_pos rfl] at H; exact H
        clear H
        have H := H1
        clear H1
        replace H := Option.bind_eq_some_iff.mp H
        obtain ⟨t207, A140, H⟩ := H
        replace H : (if t207 = true then (if 0 < (l1.length : Int) then ((antiquaryref04_Alike.f k (rd_L1 l1 0) l3).bind fun t209 => (if t209 = true then (if a5 < 0 then (lawWD.j0 k a0 l1 l3 a4 a5 a6 true l2_0) else (lawWD.j0 k a0 l1 l3 a4 a5 a6 (decide (a5 > 134217728)) l2_0)) else (lawWD.j0 k a0 l1 l3 a4 a5 a6 true l2_0))) else (none)) else (lawWD.j0 k a0 l1 l3 a4 a5 a6 true l2_0)) = some r := H
        have A14 := Aside0.mk A140
        clear A140
        by_cases c15 : t207 = true
        · subst c15
          have H1 : (if 0 < (l1.length : Int) then ((antiquaryref04_Alike.f k (rd_L1 l1 0) l3).bind fun t209 => (if t209 = true then (if a5 < 0 then (lawWD.j0 k a0 l1 l3 a4 a5 a6 true l2_0) else (lawWD.j0 k a0 l1 l3 a4 a5 a6 (decide (a5 > 134217728)) l2_0)) else (lawWD.j0 k a0 l1 l3 a4 a5 a6 true l2_0))) else (none)) = some r := by rw [if_pos rfl] at H; exact H
          clear H
          have H := H1
          clear H1
          by_cases c16 : 0 < (l1.length : Int)
          · rw [if_pos c16] at H
            have c16b0 : decide (0 < (l1.length : Int)) = true := decide_eq_true c16
            have c16b1 : decide (0 < l1.length) = true := decide_eq_true (by omega)
            clear c16
            (first | rw [c16b0] | (simp only [i64_w, i32_w]; rw [c16b0]) | skip)
            replace H := Option.bind_eq_some_iff.mp H
            obtain ⟨t209, A170, H⟩ := H
            replace H : (if t209 = true then (if a5 < 0 then (lawWD.j0 k a0 l1 l3 a4 a5 a6 true l2_0) else (lawWD.j0 k a0 l1 l3 a4 a5 a6 (decide (a5 > 134217728)) l2_0)) else (lawWD.j0 k a0 l1 l3 a4 a5 a6 true l2_0)) = some r := H
            have A17 := Aside0.mk A170
            clear A170
            by_cases c18 : t209 = true
            · subst c18
              have H1 : (if a5 < 0 then (lawWD.j0 k a0 l1 l3 a4 a5 a6 true l2_0) else (lawWD.j0 k a0 l1 l3 a4 a5 a6 (decide (a5 > 134217728)) l2_0)) = some r := by rw [if_pos rfl] at H; exact H
              clear H
              have H := H1
              clear H1
              by_cases c19 : a5 < 0
              · rw [if_pos c19] at H
                have c19b0 : decide (a5 < 0) = true := decide_eq_true c19
                clear c19
                have H' := Aside0.mk H
                clear H
                go_wp2_with (first | (go_at_call 6; (with_reducible refine (antiquaryref09_Few.calls k _ _ l1 25 true _ ?side1 ?side2 A10.out).mono ?_); (case side1 => repeat (first | exact (Kd.C_below HR1.out HB.out) | (with_reducible refine Kd.C_alloc ?_ _) | (with_reducible refine Kd.C_drewN ?_ _) | (with_reducible refine Kd.C_drew ?_))); (case side2 => exact HC1.out); rintro e w' ⟨rfl, ⟨nd, rfl⟩⟩; (try first | exact ⟨rfl, _, World.drewN_drewN _ _ _⟩ | exact ⟨rfl, _, Eq.trans (World.drewN_drewN _ _ _) (congrArg (World.drewN _) (Nat.add_assoc _ _ _))⟩); have hcz20_0 : w9.cell? ⟨gb204, 0, none⟩ = some (.slice A2_0 l2_0.length c2_0) := (blk_cell BK204.out 0).trans rfl; have hfz20_0 := blk_frozen BK204.out 0) | (go_at_call 7; (with_reducible refine (antiquaryref27_Few.calls k _ _ l2_0 true _ ?side1 ?side2 A12.out).mono ?_); (case side1 => repeat (first | exact (Kd.C_below HR2_0.out (by repeat (first | (with_reducible first | exact HB.out | apply below_alloc | apply pw_below_drewN | apply below_drew1 | refine below_set ?_ GE204.out) | exact HB.out))) | (with_reducible refine Kd.C_alloc ?_ _) | (with_reducible refine Kd.C_drewN ?_ _) | (with_reducible refine Kd.C_drew ?_))); (case side2 => exact HC2_0.out); rintro e w21 ⟨rfl, hb⟩; have n0_ := Aside0.mk (blk_below (g := gb204) (o := .cells #[.slice A2_0 l2_0.length c2_0] 25 (0, 0)) (by (with_reducible repeat (first | refine blk_drewN ?_ _ | refine blk_drew ?_ | refine blk_alloc ?_ _)); exact BK204.out) hb); have n1_ := Aside0.mk (below_step (by repeat (first | (with_reducible first | exact HB.out | apply below_alloc | apply pw_below_drewN | apply below_drew1 | refine below_set ?_ GE204.out) | exact HB.out)) hb); clear BK204; clear HB; have BK204 := n0_; have HB := n1_; clear n0_ n1_; (try clear hb); (try clear hb2); (try clear hk); (try clear hi); have hcz22_0 : w21.cell? ⟨gb204, 0, none⟩ = some (.slice A2_0 l2_0.length c2_0) := (blk_cell BK204.out 0).trans rfl; have hfz22_0 := blk_frozen BK204.out 0) | (go_at_call 8; (with_reducible refine (antiquaryref27_Right.calls k a0 _ _ l1 _ _ l2_0 true _ ?side1 ?side2 ?side3 ?side4 A14.out).mono ?_); (case side1 => repeat (first | exact (Kd.C_below HR1.out HB.out) | (with_reducible refine Kd.C_alloc ?_ _) | (with_reducible refine Kd.C_drewN ?_ _) | (with_reducible refine Kd.C_drew ?_))); (case side2 => exact HC1.out); (case side3 => repeat (first | exact (Kd.C_below HR2_0.out HB.out) | (with_reducible refine Kd.C_alloc ?_ _) | (with_reducible refine Kd.C_drewN ?_ _) | (with_reducible refine Kd.C_drew ?_))); (case side4 => exact HC2_0.out); rintro e w23 ⟨rfl, hb⟩; have n0_ := Aside0.mk (blk_below (g := gb204) (o := .cells #[.slice A2_0 l2_0.length c2_0] 25 (0, 0)) (by (with_reducible repeat (first | refine blk_drewN ?_ _ | refine blk_drew ?_ | refine blk_alloc ?_ _)); exact BK204.out) hb); have n1_ := Aside0.mk (below_step (by repeat (first | (with_reducible first | exact HB.out | apply below_alloc | apply pw_below_drewN | apply below_drew1 | refine below_set ?_ GE204.out) | exact HB.out)) hb); clear BK204; clear HB; have BK204 := n0_; have HB := n1_; clear n0_ n1_; (try clear hb); (try clear hb2); (try clear hk); (try clear hi); have p208 : 0 ≤ (0 : Int) := (by omega); have q208 : 0 < (l1.length : Int) := of_decide_eq_true (by first | (with_reducible assumption) | assumption); obtain ⟨ad208, A208_0, c208_0, e208, hx208_0, hl208_0, hi208_0⟩ := at_L1 HR1.out 0 p208 q208; cases e208; have qi208 : (0 < l1.length) = True := eq_true (by omega); (try rw [show ((0 : Int)).toNat = 0 from rfl] at hx208_0); (try rw [Addr.add_zero'] at hx208_0); replace hx208_0 := (HB.out.cell (World.block_lt_of_cell? w _ hx208_0)).trans hx208_0; have HR208_0 := Aside0.mk hi208_0; have HC208_0 := Aside0.mk hl208_0; clear hi208_0 hl208_0; replace p208 := eq_true p208; replace q208 := eq_true q208) | (go_at_call 9; (with_reducible refine (antiquaryref04_Alike.calls k _ _ (rd_L1 l1 0) _ _ l3 true _ ?side1 ?side2 ?side3 ?side4 A17.out).mono ?_); (case side1 => repeat (first | exact (Kd.C_below HR208_0.out HB.out) | (with_reducible refine Kd.C_alloc ?_ _) | (with_reducible refine Kd.C_drewN ?_ _) | (with_reducible refine Kd.C_drew ?_))); (case side2 => exact HC208_0.out); (case side3 => repeat (first | exact (Kd.C_below HR3.out HB.out) | (with_reducible refine Kd.C_alloc ?_ _) | (with_reducible refine Kd.C_drewN ?_ _) | (with_reducible refine Kd.C_drew ?_))); (case side4 => exact HC3.out); rintro e w' ⟨rfl, ⟨nd, rfl⟩⟩; (try first | exact ⟨rfl, _, World.drewN_drewN _ _ _⟩ | exact ⟨rfl, _, Eq.trans (World.drewN_drewN _ _ _) (congrArg (World.drewN _) (Nat.add_assoc _ _ _))⟩)))
                repeat (go_quiet (first | (go_at_call 6; (with_reducible refine (antiquaryref09_Few.calls k _ _ l1 25 true _ ?side1 ?side2 A10.out).mono ?_); (case side1 => repeat (first | exact (Kd.C_below HR1.out HB.out) | (with_reducible refine Kd.C_alloc ?_ _) | (with_reducible refine Kd.C_drewN ?_ _) | (with_reducible refine Kd.C_drew ?_))); (case side2 => exact HC1.out); rintro e w' ⟨rfl, ⟨nd, rfl⟩⟩; (try first | exact ⟨rfl, _, World.drewN_drewN _ _ _⟩ | exact ⟨rfl, _, Eq.trans (World.drewN_drewN _ _ _) (congrArg (World.drewN _) (Nat.add_assoc _ _ _))⟩); have hcz20_0 : w9.cell? ⟨gb204, 0, none⟩ = some (.slice A2_0 l2_0.length c2_0) := (blk_cell BK204.out 0).trans rfl; have hfz20_0 := blk_frozen BK204.out 0) | (go_at_call 7; (with_reducible refine (antiquaryref27_Few.calls k _ _ l2_0 true _ ?side1 ?side2 A12.out).mono ?_); (case side1 => repeat (first | exact (Kd.C_below HR2_0.out (by repeat (first | (with_reducible first | exact HB.out | apply below_alloc | apply pw_below_drewN | apply below_drew1 | refine below_set ?_ GE204.out) | exact HB.out))) | (with_reducible refine Kd.C_alloc ?_ _) | (with_reducible refine Kd.C_drewN ?_ _) | (with_reducible refine Kd.C_drew ?_))); (case side2 => exact HC2_0.out); rintro e w21 ⟨rfl, hb⟩; have n0_ := Aside0.mk (blk_below (g := gb204) (o := .cells #[.slice A2_0 l2_0.length c2_0] 25 (0, 0)) (by (with_reducible repeat (first | refine blk_drewN ?_ _ | refine blk_drew ?_ | refine blk_alloc ?_ _)); exact BK204.out) hb); have n1_ := Aside0.mk (below_step (by repeat (first | (with_reducible first | exact HB.out | apply below_alloc | apply pw_below_drewN | apply below_drew1 | refine below_set ?_ GE204.out) | exact HB.out)) hb); clear BK204; clear HB; have BK204 := n0_; have HB := n1_; clear n0_ n1_; (try clear hb); (try clear hb2); (try clear hk); (try clear hi); have hcz22_0 : w21.cell? ⟨gb204, 0, none⟩ = some (.slice A2_0 l2_0.length c2_0) := (blk_cell BK204.out 0).trans rfl; have hfz22_0 := blk_frozen BK204.out 0) | (go_at_call 8; (with_reducible refine (antiquaryref27_Right.calls k a0 _ _ l1 _ _ l2_0 true _ ?side1 ?side2 ?side3 ?side4 A14.out).mono ?_); (case side1 => repeat (first | exact (Kd.C_below HR1.out HB.out) | (with_reducible refine Kd.C_alloc ?_ _) | (with_reducible refine Kd.C_drewN ?_ _) | (with_reducible refine Kd.C_drew ?_))); (case side2 => exact HC1.out); (case side3 => repeat (first | exact (Kd.C_below HR2_0.out HB.out) | (with_reducible refine Kd.C_alloc ?_ _) | (with_reducible refine Kd.C_drewN ?_ _) | (with_reducible refine Kd.C_drew ?_))); (case side4 => exact HC2_0.out); rintro e w23 ⟨rfl, hb⟩; have n0_ := Aside0.mk (blk_below (g := gb204) (o := .cells #[.slice A2_0 l2_0.length c2_0] 25 (0, 0)) (by (with_reducible repeat (first | refine blk_drewN ?_ _ | refine blk_drew ?_ | refine blk_alloc ?_ _)); exact BK204.out) hb); have n1_ := Aside0.mk (below_step (by repeat (first | (with_reducible first | exact HB.out | apply below_alloc | apply pw_below_drewN | apply below_drew1 | refine below_set ?_ GE204.out) | exact HB.out)) hb); clear BK204; clear HB; have BK204 := n0_; have HB := n1_; clear n0_ n1_; (try clear hb); (try clear hb2); (try clear hk); (try clear hi); have p208 : 0 ≤ (0 : Int) := (by omega); have q208 : 0 < (l1.length : Int) := of_decide_eq_true (by first | (with_reducible assumption) | assumption); obtain ⟨ad208, A208_0, c208_0, e208, hx208_0, hl208_0, hi208_0⟩ := at_L1 HR1.out 0 p208 q208; cases e208; have qi208 : (0 < l1.length) = True := eq_true (by omega); (try rw [show ((0 : Int)).toNat = 0 from rfl] at hx208_0); (try rw [Addr.add_zero'] at hx208_0); replace hx208_0 := (HB.out.cell (World.block_lt_of_cell? w _ hx208_0)).trans hx208_0; have HR208_0 := Aside0.mk hi208_0; have HC208_0 := Aside0.mk hl208_0; clear hi208_0 hl208_0; replace p208 := eq_true p208; replace q208 := eq_true q208) | (go_at_call 9; (with_reducible refine (antiquaryref04_Alike.calls k _ _ (rd_L1 l1 0) _ _ l3 true _ ?side1 ?side2 ?side3 ?side4 A17.out).mono ?_); (case side1 => repeat (first | exact (Kd.C_below HR208_0.out HB.out) | (with_reducible refine Kd.C_alloc ?_ _) | (with_reducible refine Kd.C_drewN ?_ _) | (with_reducible refine Kd.C_drew ?_))); (case side2 => exact HC208_0.out); (case side3 => repeat (first | exact (Kd.C_below HR3.out HB.out) | (with_reducible refine Kd.C_alloc ?_ _) | (with_reducible refine Kd.C_drewN ?_ _) | (with_reducible refine Kd.C_drew ?_))); (case side4 => exact HC3.out); rintro e w' ⟨rfl, ⟨nd, rfl⟩⟩; (try first | exact ⟨rfl, _, World.drewN_drewN _ _ _⟩ | exact ⟨rfl, _, Eq.trans (World.drewN_drewN _ _ _) (congrArg (World.drewN _) (Nat.add_assoc _ _ _))⟩))); try go_wp2_with (first | (go_at_call 6; (with_reducible refine (antiquaryref09_Few.calls k _ _ l1 25 true _ ?side1 ?side2 A10.out).mono ?_); (case side1 => repeat (first | exact (Kd.C_below HR1.out HB.out) | (with_reducible refine Kd.C_alloc ?_ _) | (with_reducible refine Kd.C_drewN ?_ _) | (with_reducible refine Kd.C_drew ?_))); (case side2 => exact HC1.out); rintro e w' ⟨rfl, ⟨nd, rfl⟩⟩; (try first | exact ⟨rfl, _, World.drewN_drewN _ _ _⟩ | exact ⟨rfl, _, Eq.trans (World.drewN_drewN _ _ _) (congrArg (World.drewN _) (Nat.add_assoc _ _ _))⟩); have hcz20_0 : w9.cell? ⟨gb204, 0, none⟩ = some (.slice A2_0 l2_0.length c2_0) := (blk_cell BK204.out 0).trans rfl; have hfz20_0 := blk_frozen BK204.out 0) | (go_at_call 7; (with_reducible refine (antiquaryref27_Few.calls k _ _ l2_0 true _ ?side1 ?side2 A12.out).mono ?_); (case side1 => repeat (first | exact (Kd.C_below HR2_0.out (by repeat (first | (with_reducible first | exact HB.out | apply below_alloc | apply pw_below_drewN | apply below_drew1 | refine below_set ?_ GE204.out) | exact HB.out))) | (with_reducible refine Kd.C_alloc ?_ _) | (with_reducible refine Kd.C_drewN ?_ _) | (with_reducible refine Kd.C_drew ?_))); (case side2 => exact HC2_0.out); rintro e w21 ⟨rfl, hb⟩; have n0_ := Aside0.mk (blk_below (g := gb204) (o := .cells #[.slice A2_0 l2_0.length c2_0] 25 (0, 0)) (by (with_reducible repeat (first | refine blk_drewN ?_ _ | refine blk_drew ?_ | refine blk_alloc ?_ _)); exact BK204.out) hb); have n1_ := Aside0.mk (below_step (by repeat (first | (with_reducible first | exact HB.out | apply below_alloc | apply pw_below_drewN | apply below_drew1 | refine below_set ?_ GE204.out) | exact HB.out)) hb); clear BK204; clear HB; have BK204 := n0_; have HB := n1_; clear n0_ n1_; (try clear hb); (try clear hb2); (try clear hk); (try clear hi); have hcz22_0 : w21.cell? ⟨gb204, 0, none⟩ = some (.slice A2_0 l2_0.length c2_0) := (blk_cell BK204.out 0).trans rfl; have hfz22_0 := blk_frozen BK204.out 0) | (go_at_call 8; (with_reducible refine (antiquaryref27_Right.calls k a0 _ _ l1 _ _ l2_0 true _ ?side1 ?side2 ?side3 ?side4 A14.out).mono ?_); (case side1 => repeat (first | exact (Kd.C_below HR1.out HB.out) | (with_reducible refine Kd.C_alloc ?_ _) | (with_reducible refine Kd.C_drewN ?_ _) | (with_reducible refine Kd.C_drew ?_))); (case side2 => exact HC1.out); (case side3 => repeat (first | exact (Kd.C_below HR2_0.out HB.out) | (with_reducible refine Kd.C_alloc ?_ _) | (with_reducible refine Kd.C_drewN ?_ _) | (with_reducible refine Kd.C_drew ?_))); (case side4 => exact HC2_0.out); rintro e w23 ⟨rfl, hb⟩; have n0_ := Aside0.mk (blk_below (g := gb204) (o := .cells #[.slice A2_0 l2_0.length c2_0] 25 (0, 0)) (by (with_reducible repeat (first | refine blk_drewN ?_ _ | refine blk_drew ?_ | refine blk_alloc ?_ _)); exact BK204.out) hb); have n1_ := Aside0.mk (below_step (by repeat (first | (with_reducible first | exact HB.out | apply below_alloc | apply pw_below_drewN | apply below_drew1 | refine below_set ?_ GE204.out) | exact HB.out)) hb); clear BK204; clear HB; have BK204 := n0_; have HB := n1_; clear n0_ n1_; (try clear hb); (try clear hb2); (try clear hk); (try clear hi); have p208 : 0 ≤ (0 : Int) := (by omega); have q208 : 0 < (l1.length : Int) := of_decide_eq_true (by first | (with_reducible assumption) | assumption); obtain ⟨ad208, A208_0, c208_0, e208, hx208_0, hl208_0, hi208_0⟩ := at_L1 HR1.out 0 p208 q208; cases e208; have qi208 : (0 < l1.length) = True := eq_true (by omega); (try rw [show ((0 : Int)).toNat = 0 from rfl] at hx208_0); (try rw [Addr.add_zero'] at hx208_0); replace hx208_0 := (HB.out.cell (World.block_lt_of_cell? w _ hx208_0)).trans hx208_0; have HR208_0 := Aside0.mk hi208_0; have HC208_0 := Aside0.mk hl208_0; clear hi208_0 hl208_0; replace p208 := eq_true p208; replace q208 := eq_true q208) | (go_at_call 9; (with_reducible refine (antiquaryref04_Alike.calls k _ _ (rd_L1 l1 0) _ _ l3 true _ ?side1 ?side2 ?side3 ?side4 A17.out).mono ?_); (case side1 => repeat (first | exact (Kd.C_below HR208_0.out HB.out) | (with_reducible refine Kd.C_alloc ?_ _) | (with_reducible refine Kd.C_drewN ?_ _) | (with_reducible refine Kd.C_drew ?_))); (case side2 => exact HC208_0.out); (case side3 => repeat (first | exact (Kd.C_below HR3.out HB.out) | (with_reducible refine Kd.C_alloc ?_ _) | (with_reducible refine Kd.C_drewN ?_ _) | (with_reducible refine Kd.C_drew ?_))); (case side4 => exact HC3.out); rintro e w' ⟨rfl, ⟨nd, rfl⟩⟩; (try first | exact ⟨rfl, _, World.drewN_drewN _ _ _⟩ | exact ⟨rfl, _, Eq.trans (World.drewN_drewN _ _ _) (congrArg (World.drewN _) (Nat.add_assoc _ _ _))⟩))))
                go_meet
                case rel => exact ⟨_, (true), (by first | rfl | (simp; done) | (simp [*]; done)), H', ⟨by first | omega | exact Nat.le_refl _⟩, ⟨by (with_reducible repeat (first | refine blk_drewN ?_ _ | refine blk_drew ?_ | refine blk_alloc ?_ _)); exact BK204.out⟩, ⟨by repeat (first | (with_reducible first | exact HB.out | apply below_alloc | apply pw_below_drewN | apply below_drew1 | refine below_set ?_ GE204.out) | exact HB.out)⟩⟩
              · rw [if_neg c19] at H
                have c19b0 : decide (a5 < 0) = false := decide_eq_false c19
                clear c19
                have H' := Aside0.mk H
                clear H
                go_wp2_with (first | (go_at_call 6; (with_reducible refine (antiquaryref09_Few.calls k _ _ l1 25 true _ ?side1 ?side2 A10.out).mono ?_); (case side1 => repeat (first | exact (Kd.C_below HR1.out HB.out) | (with_reducible refine Kd.C_alloc ?_ _) | (with_reducible refine Kd.C_drewN ?_ _) | (with_reducible refine Kd.C_drew ?_))); (case side2 => exact HC1.out); rintro e w' ⟨rfl, ⟨nd, rfl⟩⟩; (try first | exact ⟨rfl, _, World.drewN_drewN _ _ _⟩ | exact ⟨rfl, _, Eq.trans (World.drewN_drewN _ _ _) (congrArg (World.drewN _) (Nat.add_assoc _ _ _))⟩); have hcz24_0 : w9.cell? ⟨gb204, 0, none⟩ = some (.slice A2_0 l2_0.length c2_0) := (blk_cell BK204.out 0).trans rfl; have hfz24_0 := blk_frozen BK204.out 0) | (go_at_call 7; (with_reducible refine (antiquaryref27_Few.calls k _ _ l2_0 true _ ?side1 ?side2 A12.out).mono ?_); (case side1 => repeat (first | exact (Kd.C_below HR2_0.out (by repeat (first | (with_reducible first | exact HB.out | apply below_alloc | apply pw_below_drewN | apply below_drew1 | refine below_set ?_ GE204.out) | exact HB.out))) | (with_reducible refine Kd.C_alloc ?_ _) | (with_reducible refine Kd.C_drewN ?_ _) | (with_reducible refine Kd.C_drew ?_))); (case side2 => exact HC2_0.out); rintro e w25 ⟨rfl, hb⟩; have n0_ := Aside0.mk (blk_below (g := gb204) (o := .cells #[.slice A2_0 l2_0.length c2_0] 25 (0, 0)) (by (with_reducible repeat (first | refine blk_drewN ?_ _ | refine blk_drew ?_ | refine blk_alloc ?_ _)); exact BK204.out) hb); have n1_ := Aside0.mk (below_step (by repeat (first | (with_reducible first | exact HB.out | apply below_alloc | apply pw_below_drewN | apply below_drew1 | refine below_set ?_ GE204.out) | exact HB.out)) hb); clear BK204; clear HB; have BK204 := n0_; have HB := n1_; clear n0_ n1_; (try clear hb); (try clear hb2); (try clear hk); (try clear hi); have hcz26_0 : w25.cell? ⟨gb204, 0, none⟩ = some (.slice A2_0 l2_0.length c2_0) := (blk_cell BK204.out 0).trans rfl; have hfz26_0 := blk_frozen BK204.out 0) | (go_at_call 8; (with_reducible refine (antiquaryref27_Right.calls k a0 _ _ l1 _ _ l2_0 true _ ?side1 ?side2 ?side3 ?side4 A14.out).mono ?_); (case side1 => repeat (first | exact (Kd.C_below HR1.out HB.out) | (with_reducible refine Kd.C_alloc ?_ _) | (with_reducible refine Kd.C_drewN ?_ _) | (with_reducible refine Kd.C_drew ?_))); (case side2 => exact HC1.out); (case side3 => repeat (first | exact (Kd.C_below HR2_0.out HB.out) | (with_reducible refine Kd.C_alloc ?_ _) | (with_reducible refine Kd.C_drewN ?_ _) | (with_reducible refine Kd.C_drew ?_))); (case side4 => exact HC2_0.out); rintro e w27 ⟨rfl, hb⟩; have n0_ := Aside0.mk (blk_below (g := gb204) (o := .cells #[.slice A2_0 l2_0.length c2_0] 25 (0, 0)) (by (with_reducible repeat (first | refine blk_drewN ?_ _ | refine blk_drew ?_ | refine blk_alloc ?_ _)); exact BK204.out) hb); have n1_ := Aside0.mk (below_step (by repeat (first | (with_reducible first | exact HB.out | apply below_alloc | apply pw_below_drewN | apply below_drew1 | refine below_set ?_ GE204.out) | exact HB.out)) hb); clear BK204; clear HB; have BK204 := n0_; have HB := n1_; clear n0_ n1_; (try clear hb); (try clear hb2); (try clear hk); (try clear hi); have p208 : 0 ≤ (0 : Int) := (by omega); have q208 : 0 < (l1.length : Int) := of_decide_eq_true (by first | (with_reducible assumption) | assumption); obtain ⟨ad208, A208_0, c208_0, e208, hx208_0, hl208_0, hi208_0⟩ := at_L1 HR1.out 0 p208 q208; cases e208; have qi208 : (0 < l1.length) = True := eq_true (by omega); (try rw [show ((0 : Int)).toNat = 0 from rfl] at hx208_0); (try rw [Addr.add_zero'] at hx208_0); replace hx208_0 := (HB.out.cell (World.block_lt_of_cell? w _ hx208_0)).trans hx208_0; have HR208_0 := Aside0.mk hi208_0; have HC208_0 := Aside0.mk hl208_0; clear hi208_0 hl208_0; replace p208 := eq_true p208; replace q208 := eq_true q208) | (go_at_call 9; (with_reducible refine (antiquaryref04_Alike.calls k _ _ (rd_L1 l1 0) _ _ l3 true _ ?side1 ?side2 ?side3 ?side4 A17.out).mono ?_); (case side1 => repeat (first | exact (Kd.C_below HR208_0.out HB.out) | (with_reducible refine Kd.C_alloc ?_ _) | (with_reducible refine Kd.C_drewN ?_ _) | (with_reducible refine Kd.C_drew ?_))); (case side2 => exact HC208_0.out); (case side3 => repeat (first | exact (Kd.C_below HR3.out HB.out) | (with_reducible refine Kd.C_alloc ?_ _) | (with_reducible refine Kd.C_drewN ?_ _) | (with_reducible refine Kd.C_drew ?_))); (case side4 => exact HC3.out); rintro e w' ⟨rfl, ⟨nd, rfl⟩⟩; (try first | exact ⟨rfl, _, World.drewN_drewN _ _ _⟩ | exact ⟨rfl, _, Eq.trans (World.drewN_drewN _ _ _) (congrArg (World.drewN _) (Nat.add_assoc _ _ _))⟩)))
                repeat (go_quiet (first | (go_at_call 6; (with_reducible refine (antiquaryref09_Few.calls k _ _ l1 25 true _ ?side1 ?side2 A10.out).mono ?_); (case side1 => repeat (first | exact (Kd.C_below HR1.out HB.out) | (with_reducible refine Kd.C_alloc ?_ _) | (with_reducible refine Kd.C_drewN ?_ _) | (with_reducible refine Kd.C_drew ?_))); (case side2 => exact HC1.out); rintro e w' ⟨rfl, ⟨nd, rfl⟩⟩; (try first | exact ⟨rfl, _, World.drewN_drewN _ _ _⟩ | exact ⟨rfl, _, Eq.trans (World.drewN_drewN _ _ _) (congrArg (World.drewN _) (Nat.add_assoc _ _ _))⟩); have hcz24_0 : w9.cell? ⟨gb204, 0, none⟩ = some (.slice A2_0 l2_0.length c2_0) := (blk_cell BK204.out 0).trans rfl; have hfz24_0 := blk_frozen BK204.out 0) | (go_at_call 7; (with_reducible refine (antiquaryref27_Few.calls k _ _ l2_0 true _ ?side1 ?side2 A12.out).mono ?_); (case side1 => repeat (first | exact (Kd.C_below HR2_0.out (by repeat (first | (with_reducible first | exact HB.out | apply below_alloc | apply pw_below_drewN | apply below_drew1 | refine below_set ?_ GE204.out) | exact HB.out))) | (with_reducible refine Kd.C_alloc ?_ _) | (with_reducible refine Kd.C_drewN ?_ _) | (with_reducible refine Kd.C_drew ?_))); (case side2 => exact HC2_0.out); rintro e w25 ⟨rfl, hb⟩; have n0_ := Aside0.mk (blk_below (g := gb204) (o := .cells #[.slice A2_0 l2_0.length c2_0] 25 (0, 0)) (by (with_reducible repeat (first | refine blk_drewN ?_ _ | refine blk_drew ?_ | refine blk_alloc ?_ _)); exact BK204.out) hb); have n1_ := Aside0.mk (below_step (by repeat (first | (with_reducible first | exact HB.out | apply below_alloc | apply pw_below_drewN | apply below_drew1 | refine below_set ?_ GE204.out) | exact HB.out)) hb); clear BK204; clear HB; have BK204 := n0_; have HB := n1_; clear n0_ n1_; (try clear hb); (try clear hb2); (try clear hk); (try clear hi); have hcz26_0 : w25.cell? ⟨gb204, 0, none⟩ = some (.slice A2_0 l2_0.length c2_0) := (blk_cell BK204.out 0).trans rfl; have hfz26_0 := blk_frozen BK204.out 0) | (go_at_call 8; (with_reducible refine (antiquaryref27_Right.calls k a0 _ _ l1 _ _ l2_0 true _ ?side1 ?side2 ?side3 ?side4 A14.out).mono ?_); (case side1 => repeat (first | exact (Kd.C_below HR1.out HB.out) | (with_reducible refine Kd.C_alloc ?_ _) | (with_reducible refine Kd.C_drewN ?_ _) | (with_reducible refine Kd.C_drew ?_))); (case side2 => exact HC1.out); (case side3 => repeat (first | exact (Kd.C_below HR2_0.out HB.out) | (with_reducible refine Kd.C_alloc ?_ _) | (with_reducible refine Kd.C_drewN ?_ _) | (with_reducible refine Kd.C_drew ?_))); (case side4 => exact HC2_0.out); rintro e w27 ⟨rfl, hb⟩; have n0_ := Aside0.mk (blk_below (g := gb204) (o := .cells #[.slice A2_0 l2_0.length c2_0] 25 (0, 0)) (by (with_reducible repeat (first | refine blk_drewN ?_ _ | refine blk_drew ?_ | refine blk_alloc ?_ _)); exact BK204.out) hb); have n1_ := Aside0.mk (below_step (by repeat (first | (with_reducible first | exact HB.out | apply below_alloc | apply pw_below_drewN | apply below_drew1 | refine below_set ?_ GE204.out) | exact HB.out)) hb); clear BK204; clear HB; have BK204 := n0_; have HB := n1_; clear n0_ n1_; (try clear hb); (try clear hb2); (try clear hk); (try clear hi); have p208 : 0 ≤ (0 : Int) := (by omega); have q208 : 0 < (l1.length : Int) := of_decide_eq_true (by first | (with_reducible assumption) | assumption); obtain ⟨ad208, A208_0, c208_0, e208, hx208_0, hl208_0, hi208_0⟩ := at_L1 HR1.out 0 p208 q208; cases e208; have qi208 : (0 < l1.length) = True := eq_true (by omega); (try rw [show ((0 : Int)).toNat = 0 from rfl] at hx208_0); (try rw [Addr.add_zero'] at hx208_0); replace hx208_0 := (HB.out.cell (World.block_lt_of_cell? w _ hx208_0)).trans hx208_0; have HR208_0 := Aside0.mk hi208_0; have HC208_0 := Aside0.mk hl208_0; clear hi208_0 hl208_0; replace p208 := eq_true p208; replace q208 := eq_true q208) | (go_at_call 9; (with_reducible refine (antiquaryref04_Alike.calls k _ _ (rd_L1 l1 0) _ _ l3 true _ ?side1 ?side2 ?side3 ?side4 A17.out).mono ?_); (case side1 => repeat (first | exact (Kd.C_below HR208_0.out HB.out) | (with_reducible refine Kd.C_alloc ?_ _) | (with_reducible refine Kd.C_drewN ?_ _) | (with_reducible refine Kd.C_drew ?_))); (case side2 => exact HC208_0.out); (case side3 => repeat (first | exact (Kd.C_below HR3.out HB.out) | (with_reducible refine Kd.C_alloc ?_ _) | (with_reducible refine Kd.C_drewN ?_ _) | (with_reducible refine Kd.C_drew ?_))); (case side4 => exact HC3.out); rintro e w' ⟨rfl, ⟨nd, rfl⟩⟩; (try first | exact ⟨rfl, _, World.drewN_drewN _ _ _⟩ | exact ⟨rfl, _, Eq.trans (World.drewN_drewN _ _ _) (congrArg (World.drewN _) (Nat.add_assoc _ _ _))⟩))); try go_wp2_with (first | (go_at_call 6; (with_reducible refine (antiquaryref09_Few.calls k _ _ l1 25 true _ ?side1 ?side2 A10.out).mono ?_); (case side1 => repeat (first | exact (Kd.C_below HR1.out HB.out) | (with_reducible refine Kd.C_alloc ?_ _) | (with_reducible refine Kd.C_drewN ?_ _) | (with_reducible refine Kd.C_drew ?_))); (case side2 => exact HC1.out); rintro e w' ⟨rfl, ⟨nd, rfl⟩⟩; (try first | exact ⟨rfl, _, World.drewN_drewN _ _ _⟩ | exact ⟨rfl, _, Eq.trans (World.drewN_drewN _ _ _) (congrArg (World.drewN _) (Nat.add_assoc _ _ _))⟩); have hcz24_0 : w9.cell? ⟨gb204, 0, none⟩ = some (.slice A2_0 l2_0.length c2_0) := (blk_cell BK204.out 0).trans rfl; have hfz24_0 := blk_frozen BK204.out 0) | (go_at_call 7; (with_reducible refine (antiquaryref27_Few.calls k _ _ l2_0 true _ ?side1 ?side2 A12.out).mono ?_); (case side1 => repeat (first | exact (Kd.C_below HR2_0.out (by repeat (first | (with_reducible first | exact HB.out | apply below_alloc | apply pw_below_drewN | apply below_drew1 | refine below_set ?_ GE204.out) | exact HB.out))) | (with_reducible refine Kd.C_alloc ?_ _) | (with_reducible refine Kd.C_drewN ?_ _) | (with_reducible refine Kd.C_drew ?_))); (case side2 => exact HC2_0.out); rintro e w25 ⟨rfl, hb⟩; have n0_ := Aside0.mk (blk_below (g := gb204) (o := .cells #[.slice A2_0 l2_0.length c2_0] 25 (0, 0)) (by (with_reducible repeat (first | refine blk_drewN ?_ _ | refine blk_drew ?_ | refine blk_alloc ?_ _)); exact BK204.out) hb); have n1_ := Aside0.mk (below_step (by repeat (first | (with_reducible first | exact HB.out | apply below_alloc | apply pw_below_drewN | apply below_drew1 | refine below_set ?_ GE204.out) | exact HB.out)) hb); clear BK204; clear HB; have BK204 := n0_; have HB := n1_; clear n0_ n1_; (try clear hb); (try clear hb2); (try clear hk); (try clear hi); have hcz26_0 : w25.cell? ⟨gb204, 0, none⟩ = some (.slice A2_0 l2_0.length c2_0) := (blk_cell BK204.out 0).trans rfl; have hfz26_0 := blk_frozen BK204.out 0) | (go_at_call 8; (with_reducible refine (antiquaryref27_Right.calls k a0 _ _ l1 _ _ l2_0 true _ ?side1 ?side2 ?side3 ?side4 A14.out).mono ?_); (case side1 => repeat (first | exact (Kd.C_below HR1.out HB.out) | (with_reducible refine Kd.C_alloc ?_ _) | (with_reducible refine Kd.C_drewN ?_ _) | (with_reducible refine Kd.C_drew ?_))); (case side2 => exact HC1.out); (case side3 => repeat (first | exact (Kd.C_below HR2_0.out HB.out) | (with_reducible refine Kd.C_alloc ?_ _) | (with_reducible refine Kd.C_drewN ?_ _) | (with_reducible refine Kd.C_drew ?_))); (case side4 => exact HC2_0.out); rintro e w27 ⟨rfl, hb⟩; have n0_ := Aside0.mk (blk_below (g := gb204) (o := .cells #[.slice A2_0 l2_0.length c2_0] 25 (0, 0)) (by (with_reducible repeat (first | refine blk_drewN ?_ _ | refine blk_drew ?_ | refine blk_alloc ?_ _)); exact BK204.out) hb); have n1_ := Aside0.mk (below_step (by repeat (first | (with_reducible first | exact HB.out | apply below_alloc | apply pw_below_drewN | apply below_drew1 | refine below_set ?_ GE204.out) | exact HB.out)) hb); clear BK204; clear HB; have BK204 := n0_; have HB := n1_; clear n0_ n1_; (try clear hb); (try clear hb2); (try clear hk); (try clear hi); have p208 : 0 ≤ (0 : Int) := (by omega); have q208 : 0 < (l1.length : Int) := of_decide_eq_true (by first | (with_reducible assumption) | assumption); obtain ⟨ad208, A208_0, c208_0, e208, hx208_0, hl208_0, hi208_0⟩ := at_L1 HR1.out 0 p208 q208; cases e208; have qi208 : (0 < l1.length) = True := eq_true (by omega); (try rw [show ((0 : Int)).toNat = 0 from rfl] at hx208_0); (try rw [Addr.add_zero'] at hx208_0); replace hx208_0 := (HB.out.cell (World.block_lt_of_cell? w _ hx208_0)).trans hx208_0; have HR208_0 := Aside0.mk hi208_0; have HC208_0 := Aside0.mk hl208_0; clear hi208_0 hl208_0; replace p208 := eq_true p208; replace q208 := eq_true q208) | (go_at_call 9; (with_reducible refine (antiquaryref04_Alike.calls k _ _ (rd_L1 l1 0) _ _ l3 true _ ?side1 ?side2 ?side3 ?side4 A17.out).mono ?_); (case side1 => repeat (first | exact (Kd.C_below HR208_0.out HB.out) | (with_reducible refine Kd.C_alloc ?_ _) | (with_reducible refine Kd.C_drewN ?_ _) | (with_reducible refine Kd.C_drew ?_))); (case side2 => exact HC208_0.out); (case side3 => repeat (first | exact (Kd.C_below HR3.out HB.out) | (with_reducible refine Kd.C_alloc ?_ _) | (with_reducible refine Kd.C_drewN ?_ _) | (with_reducible refine Kd.C_drew ?_))); (case side4 => exact HC3.out); rintro e w' ⟨rfl, ⟨nd, rfl⟩⟩; (try first | exact ⟨rfl, _, World.drewN_drewN _ _ _⟩ | exact ⟨rfl, _, Eq.trans (World.drewN_drewN _ _ _) (congrArg (World.drewN _) (Nat.add_assoc _ _ _))⟩))))
                go_meet
                case rel => exact ⟨_, (decide (a5 > 134217728)), (by first | rfl | (simp; done) | (simp [*]; done)), H', ⟨by first | omega | exact Nat.le_refl _⟩, ⟨by (with_reducible repeat (first | refine blk_drewN ?_ _ | refine blk_drew ?_ | refine blk_alloc ?_ _)); exact BK204.out⟩, ⟨by repeat (first | (with_reducible first | exact HB.out | apply below_alloc | apply pw_below_drewN | apply below_drew1 | refine below_set ?_ GE204.out) | exact HB.out)⟩⟩
            · replace c18 := Bool.eq_false_iff.mpr c18
              subst c18
              have H1 : (lawWD.j0 k a0 l1 l3 a4 a5 a6 true l2_0) = some r := by rw [if_neg (show ¬ (false = true) by decide)] at H; exact H
              clear H
              have H := H1
              clear H1
              have H' := Aside0.mk H
              clear H
              go_wp2_with (first | (go_at_call 6; (with_reducible refine (antiquaryref09_Few.calls k _ _ l1 25 true _ ?side1 ?side2 A10.out).mono ?_); (case side1 => repeat (first | exact (Kd.C_below HR1.out HB.out) | (with_reducible refine Kd.C_alloc ?_ _) | (with_reducible refine Kd.C_drewN ?_ _) | (with_reducible refine Kd.C_drew ?_))); (case side2 => exact HC1.out); rintro e w' ⟨rfl, ⟨nd, rfl⟩⟩; (try first | exact ⟨rfl, _, World.drewN_drewN _ _ _⟩ | exact ⟨rfl, _, Eq.trans (World.drewN_drewN _ _ _) (congrArg (World.drewN _) (Nat.add_assoc _ _ _))⟩); have hcz28_0 : w9.cell? ⟨gb204, 0, none⟩ = some (.slice A2_0 l2_0.length c2_0) := (blk_cell BK204.out 0).trans rfl; have hfz28_0 := blk_frozen BK204.out 0) | (go_at_call 7; (with_reducible refine (antiquaryref27_Few.calls k _ _ l2_0 true _ ?side1 ?side2 A12.out).mono ?_); (case side1 => repeat (first | exact (Kd.C_below HR2_0.out (by repeat (first | (with_reducible first | exact HB.out | apply below_alloc | apply pw_below_drewN | apply below_drew1 | refine below_set ?_ GE204.out) | exact HB.out))) | (with_reducible refine Kd.C_alloc ?_ _) | (with_reducible refine Kd.C_drewN ?_ _) | (with_reducible refine Kd.C_drew ?_))); (case side2 => exact HC2_0.out); rintro e w29 ⟨rfl, hb⟩; have n0_ := Aside0.mk (blk_below (g := gb204) (o := .cells #[.slice A2_0 l2_0.length c2_0] 25 (0, 0)) (by (with_reducible repeat (first | refine blk_drewN ?_ _ | refine blk_drew ?_ | refine blk_alloc ?_ _)); exact BK204.out) hb); have n1_ := Aside0.mk (below_step (by repeat (first | (with_reducible first | exact HB.out | apply below_alloc | apply pw_below_drewN | apply below_drew1 | refine below_set ?_ GE204.out) | exact HB.out)) hb); clear BK204; clear HB; have BK204 := n0_; have HB := n1_; clear n0_ n1_; (try clear hb); (try clear hb2); (try clear hk); (try clear hi); have hcz30_0 : w29.cell? ⟨gb204, 0, none⟩ = some (.slice A2_0 l2_0.length c2_0) := (blk_cell BK204.out 0).trans rfl; have hfz30_0 := blk_frozen BK204.out 0) | (go_at_call 8; (with_reducible refine (antiquaryref27_Right.calls k a0 _ _ l1 _ _ l2_0 true _ ?side1 ?side2 ?side3 ?side4 A14.out).mono ?_); (case side1 => repeat (first | exact (Kd.C_below HR1.out HB.out) | (with_reducible refine Kd.C_alloc ?_ _) | (with_reducible refine Kd.C_drewN ?_ _) | (with_reducible refine Kd.C_drew ?_))); (case side2 => exact HC1.out); (case side3 => repeat (first | exact (Kd.C_below HR2_0.out HB.out) | (with_reducible refine Kd.C_alloc ?_ _) | (with_reducible refine Kd.C_drewN ?_ _) | (with_reducible refine Kd.C_drew ?_))); (case side4 => exact HC2_0.out); rintro e w31 ⟨rfl, hb⟩; have n0_ := Aside0.mk (blk_below (g := gb204) (o := .cells #[.slice A2_0 l2_0.length c2_0] 25 (0, 0)) (by (with_reducible repeat (first | refine blk_drewN ?_ _ | refine blk_drew ?_ | refine blk_alloc ?_ _)); exact BK204.out) hb); have n1_ := Aside0.mk (below_step (by repeat (first | (with_reducible first | exact HB.out | apply below_alloc | apply pw_below_drewN | apply below_drew1 | refine below_set ?_ GE204.out) | exact HB.out)) hb); clear BK204; clear HB; have BK204 := n0_; have HB := n1_; clear n0_ n1_; (try clear hb); (try clear hb2); (try clear hk); (try clear hi); have p208 : 0 ≤ (0 : Int) := (by omega); have q208 : 0 < (l1.length : Int) := of_decide_eq_true (by first | (with_reducible assumption) | assumption); obtain ⟨ad208, A208_0, c208_0, e208, hx208_0, hl208_0, hi208_0⟩ := at_L1 HR1.out 0 p208 q208; cases e208; have qi208 : (0 < l1.length) = True := eq_true (by omega); (try rw [show ((0 : Int)).toNat = 0 from rfl] at hx208_0); (try rw [Addr.add_zero'] at hx208_0); replace hx208_0 := (HB.out.cell (World.block_lt_of_cell? w _ hx208_0)).trans hx208_0; have HR208_0 := Aside0.mk hi208_0; have HC208_0 := Aside0.mk hl208_0; clear hi208_0 hl208_0; replace p208 := eq_true p208; replace q208 := eq_true q208) | (go_at_call 9; (with_reducible refine (antiquaryref04_Alike.calls k _ _ (rd_L1 l1 0) _ _ l3 false _ ?side1 ?side2 ?side3 ?side4 A17.out).mono ?_); (case side1 => repeat (first | exact (Kd.C_below HR208_0.out HB.out) | (with_reducible refine Kd.C_alloc ?_ _) | (with_reducible refine Kd.C_drewN ?_ _) | (with_reducible refine Kd.C_drew ?_))); (case side2 => exact HC208_0.out); (case side3 => repeat (first | exact (Kd.C_below HR3.out HB.out) | (with_reducible refine Kd.C_alloc ?_ _) | (with_reducible refine Kd.C_drewN ?_ _) | (with_reducible refine Kd.C_drew ?_))); (case side4 => exact HC3.out); rintro e w' ⟨rfl, ⟨nd, rfl⟩⟩; (try first | exact ⟨rfl, _, World.drewN_drewN _ _ _⟩ | exact ⟨rfl, _, Eq.trans (World.drewN_drewN _ _ _) (congrArg (World.drewN _) (Nat.add_assoc _ _ _))⟩)))
              repeat (go_quiet (first | (go_at_call 6; (with_reducible refine (antiquaryref09_Few.calls k _ _ l1 25 true _ ?side1 ?side2 A10.out).mono ?_); (case side1 => repeat (first | exact (Kd.C_below HR1.out HB.out) | (with_reducible refine Kd.C_alloc ?_ _) | (with_reducible refine Kd.C_drewN ?_ _) | (with_reducible refine Kd.C_drew ?_))); (case side2 => exact HC1.out); rintro e w' ⟨rfl, ⟨nd, rfl⟩⟩; (try first | exact ⟨rfl, _, World.drewN_drewN _ _ _⟩ | exact ⟨rfl, _, Eq.trans (World.drewN_drewN _ _ _) (congrArg (World.drewN _) (Nat.add_assoc _ _ _))⟩); have hcz28_0 : w9.cell? ⟨gb204, 0, none⟩ = some (.slice A2_0 l2_0.length c2_0) := (blk_cell BK204.out 0).trans rfl; have hfz28_0 := blk_frozen BK204.out 0) | (go_at_call 7; (with_reducible refine (antiquaryref27_Few.calls k _ _ l2_0 true _ ?side1 ?side2 A12.out).mono ?_); (case side1 => repeat (first | exact (Kd.C_below HR2_0.out (by repeat (first | (with_reducible first | exact HB.out | apply below_alloc | apply pw_below_drewN | apply below_drew1 | refine below_set ?_ GE204.out) | exact HB.out))) | (with_reducible refine Kd.C_alloc ?_ _) | (with_reducible refine Kd.C_drewN ?_ _) | (with_reducible refine Kd.C_drew ?_))); (case side2 => exact HC2_0.out); rintro e w29 ⟨rfl, hb⟩; have n0_ := Aside0.mk (blk_below (g := gb204) (o := .cells #[.slice A2_0 l2_0.length c2_0] 25 (0, 0)) (by (with_reducible repeat (first | refine blk_drewN ?_ _ | refine blk_drew ?_ | refine blk_alloc ?_ _)); exact BK204.out) hb); have n1_ := Aside0.mk (below_step (by repeat (first | (with_reducible first | exact HB.out | apply below_alloc | apply pw_below_drewN | apply below_drew1 | refine below_set ?_ GE204.out) | exact HB.out)) hb); clear BK204; clear HB; have BK204 := n0_; have HB := n1_; clear n0_ n1_; (try clear hb); (try clear hb2); (try clear hk); (try clear hi); have hcz30_0 : w29.cell? ⟨gb204, 0, none⟩ = some (.slice A2_0 l2_0.length c2_0) := (blk_cell BK204.out 0).trans rfl; have hfz30_0 := blk_frozen BK204.out 0) | (go_at_call 8; (with_reducible refine (antiquaryref27_Right.calls k a0 _ _ l1 _ _ l2_0 true _ ?side1 ?side2 ?side3 ?side4 A14.out).mono ?_); (case side1 => repeat (first | exact (Kd.C_below HR1.out HB.out) | (with_reducible refine Kd.C_alloc ?_ _) | (with_reducible refine Kd.C_drewN ?_ _) | (with_reducible refine Kd.C_drew ?_))); (case side2 => exact HC1.out); (case side3 => repeat (first | exact (Kd.C_below HR2_0.out HB.out) | (with_reducible refine Kd.C_alloc ?_ _) | (with_reducible refine Kd.C_drewN ?_ _) | (with_reducible refine Kd.C_drew ?_))); (case side4 => exact HC2_0.out); rintro e w31 ⟨rfl, hb⟩; have n0_ := Aside0.mk (blk_below (g := gb204) (o := .cells #[.slice A2_0 l2_0.length c2_0] 25 (0, 0)) (by (with_reducible repeat (first | refine blk_drewN ?_ _ | refine blk_drew ?_ | refine blk_alloc ?_ _)); exact BK204.out) hb); have n1_ := Aside0.mk (below_step (by repeat (first | (with_reducible first | exact HB.out | apply below_alloc | apply pw_below_drewN | apply below_drew1 | refine below_set ?_ GE204.out) | exact HB.out)) hb); clear BK204; clear HB; have BK204 := n0_; have HB := n1_; clear n0_ n1_; (try clear hb); (try clear hb2); (try clear hk); (try clear hi); have p208 : 0 ≤ (0 : Int) := (by omega); have q208 : 0 < (l1.length : Int) := of_decide_eq_true (by first | (with_reducible assumption) | assumption); obtain ⟨ad208, A208_0, c208_0, e208, hx208_0, hl208_0, hi208_0⟩ := at_L1 HR1.out 0 p208 q208; cases e208; have qi208 : (0 < l1.length) = True := eq_true (by omega); (try rw [show ((0 : Int)).toNat = 0 from rfl] at hx208_0); (try rw [Addr.add_zero'] at hx208_0); replace hx208_0 := (HB.out.cell (World.block_lt_of_cell? w _ hx208_0)).trans hx208_0; have HR208_0 := Aside0.mk hi208_0; have HC208_0 := Aside0.mk hl208_0; clear hi208_0 hl208_0; replace p208 := eq_true p208; replace q208 := eq_true q208) | (go_at_call 9; (with_reducible refine (antiquaryref04_Alike.calls k _ _ (rd_L1 l1 0) _ _ l3 false _ ?side1 ?side2 ?side3 ?side4 A17.out).mono ?_); (case side1 => repeat (first | exact (Kd.C_below HR208_0.out HB.out) | (with_reducible refine Kd.C_alloc ?_ _) | (with_reducible refine Kd.C_drewN ?_ _) | (with_reducible refine Kd.C_drew ?_))); (case side2 => exact HC208_0.out); (case side3 => repeat (first | exact (Kd.C_below HR3.out HB.out) | (with_reducible refine Kd.C_alloc ?_ _) | (with_reducible refine Kd.C_drewN ?_ _) | (with_reducible refine Kd.C_drew ?_))); (case side4 => exact HC3.out); rintro e w' ⟨rfl, ⟨nd, rfl⟩⟩; (try first | exact ⟨rfl, _, World.drewN_drewN _ _ _⟩ | exact ⟨rfl, _, Eq.trans (World.drewN_drewN _ _ _) (congrArg (World.drewN _) (Nat.add_assoc _ _ _))⟩))); try go_wp2_with (first | (go_at_call 6; (with_reducible refine (antiquaryref09_Few.calls k _ _ l1 25 true _ ?side1 ?side2 A10.out).mono ?_); (case side1 => repeat (first | exact (Kd.C_below HR1.out HB.out) | (with_reducible refine Kd.C_alloc ?_ _) | (with_reducible refine Kd.C_drewN ?_ _) | (with_reducible refine Kd.C_drew ?_))); (case side2 => exact HC1.out); rintro e w' ⟨rfl, ⟨nd, rfl⟩⟩; (try first | exact ⟨rfl, _, World.drewN_drewN _ _ _⟩ | exact ⟨rfl, _, Eq.trans (World.drewN_drewN _ _ _) (congrArg (World.drewN _) (Nat.add_assoc _ _ _))⟩); have hcz28_0 : w9.cell? ⟨gb204, 0, none⟩ = some (.slice A2_0 l2_0.length c2_0) := (blk_cell BK204.out 0).trans rfl; have hfz28_0 := blk_frozen BK204.out 0) | (go_at_call 7; (with_reducible refine (antiquaryref27_Few.calls k _ _ l2_0 true _ ?side1 ?side2 A12.out).mono ?_); (case side1 => repeat (first | exact (Kd.C_below HR2_0.out (by repeat (first | (with_reducible first | exact HB.out | apply below_alloc | apply pw_below_drewN | apply below_drew1 | refine below_set ?_ GE204.out) | exact HB.out))) | (with_reducible refine Kd.C_alloc ?_ _) | (with_reducible refine Kd.C_drewN ?_ _) | (with_reducible refine Kd.C_drew ?_))); (case side2 => exact HC2_0.out); rintro e w29 ⟨rfl, hb⟩; have n0_ := Aside0.mk (blk_below (g := gb204) (o := .cells #[.slice A2_0 l2_0.length c2_0] 25 (0, 0)) (by (with_reducible repeat (first | refine blk_drewN ?_ _ | refine blk_drew ?_ | refine blk_alloc ?_ _)); exact BK204.out) hb); have n1_ := Aside0.mk (below_step (by repeat (first | (with_reducible first | exact HB.out | apply below_alloc | apply pw_below_drewN | apply below_drew1 | refine below_set ?_ GE204.out) | exact HB.out)) hb); clear BK204; clear HB; have BK204 := n0_; have HB := n1_; clear n0_ n1_; (try clear hb); (try clear hb2); (try clear hk); (try clear hi); have hcz30_0 : w29.cell? ⟨gb204, 0, none⟩ = some (.slice A2_0 l2_0.length c2_0) := (blk_cell BK204.out 0).trans rfl; have hfz30_0 := blk_frozen BK204.out 0) | (go_at_call 8; (with_reducible refine (antiquaryref27_Right.calls k a0 _ _ l1 _ _ l2_0 true _ ?side1 ?side2 ?side3 ?side4 A14.out).mono ?_); (case side1 => repeat (first | exact (Kd.C_below HR1.out HB.out) | (with_reducible refine Kd.C_alloc ?_ _) | (with_reducible refine Kd.C_drewN ?_ _) | (with_reducible refine Kd.C_drew ?_))); (case side2 => exact HC1.out); (case side3 => repeat (first | exact (Kd.C_below HR2_0.out HB.out) | (with_reducible refine Kd.C_alloc ?_ _) | (with_reducible refine Kd.C_drewN ?_ _) | (with_reducible refine Kd.C_drew ?_))); (case side4 => exact HC2_0.out); rintro e w31 ⟨rfl, hb⟩; have n0_ := Aside0.mk (blk_below (g := gb204) (o := .cells #[.slice A2_0 l2_0.length c2_0] 25 (0, 0)) (by (with_reducible repeat (first | refine blk_drewN ?_ _ | refine blk_drew ?_ | refine blk_alloc ?_ _)); exact BK204.out) hb); have n1_ := Aside0.mk (below_step (by repeat (first | (with_reducible first | exact HB.out | apply below_alloc | apply pw_below_drewN | apply below_drew1 | refine below_set ?_ GE204.out) | exact HB.out)) hb); clear BK204; clear HB; have BK204 := n0_; have HB := n1_; clear n0_ n1_; (try clear hb); (try clear hb2); (try clear hk); (try clear hi); have p208 : 0 ≤ (0 : Int) := (by omega); have q208 : 0 < (l1.length : Int) := of_decide_eq_true (by first | (with_reducible assumption) | assumption); obtain ⟨ad208, A208_0, c208_0, e208, hx208_0, hl208_0, hi208_0⟩ := at_L1 HR1.out 0 p208 q208; cases e208; have qi208 : (0 < l1.length) = True := eq_true (by omega); (try rw [show ((0 : Int)).toNat = 0 from rfl] at hx208_0); (try rw [Addr.add_zero'] at hx208_0); replace hx208_0 := (HB.out.cell (World.block_lt_of_cell? w _ hx208_0)).trans hx208_0; have HR208_0 := Aside0.mk hi208_0; have HC208_0 := Aside0.mk hl208_0; clear hi208_0 hl208_0; replace p208 := eq_true p208; replace q208 := eq_true q208) | (go_at_call 9; (with_reducible refine (antiquaryref04_Alike.calls k _ _ (rd_L1 l1 0) _ _ l3 false _ ?side1 ?side2 ?side3 ?side4 A17.out).mono ?_); (case side1 => repeat (first | exact (Kd.C_below HR208_0.out HB.out) | (with_reducible refine Kd.C_alloc ?_ _) | (with_reducible refine Kd.C_drewN ?_ _) | (with_reducible refine Kd.C_drew ?_))); (case side2 => exact HC208_0.out); (case side3 => repeat (first | exact (Kd.C_below HR3.out HB.out) | (with_reducible refine Kd.C_alloc ?_ _) | (with_reducible refine Kd.C_drewN ?_ _) | (with_reducible refine Kd.C_drew ?_))); (case side4 => exact HC3.out); rintro e w' ⟨rfl, ⟨nd, rfl⟩⟩; (try first | exact ⟨rfl, _, World.drewN_drewN _ _ _⟩ | exact ⟨rfl, _, Eq.trans (World.drewN_drewN _ _ _) (congrArg (World.drewN _) (Nat.add_assoc _ _ _))⟩))))
              go_meet
              case rel => exact ⟨_, (true), (by first | rfl | (simp; done) | (simp [*]; done)), H', ⟨by first | omega | exact Nat.le_refl _⟩, ⟨by (with_reducible repeat (first | refine blk_drewN ?_ _ | refine blk_drew ?_ | refine blk_alloc ?_ _)); exact BK204.out⟩, ⟨by repeat (first | (with_reducible first | exact HB.out | apply below_alloc | apply pw_below_drewN | apply below_drew1 | refine below_set ?_ GE204.out) | exact HB.out)⟩⟩
          · rw [if_neg c16] at H
            exact absurd H (by simp)
        · replace c15 := Bool.eq_false_iff.mpr c15
          subst c15
          have H1 : (lawWD.j0 k a0 l1 l3 a4 a5 a6 true l2_0) = some r := by rw [if_neg (show ¬ (false = true) by decide)] at H; exact H
          clear H
          have H := H1
          clear H1
          have H' := Aside0.mk H
          clear H
          go_wp2_with (first | (go_at_call 6; (with_reducible refine (antiquaryref09_Few.calls k _ _ l1 25 true _ ?side1 ?side2 A10.out).mono ?_); (case side1 => repeat (first | exact (Kd.C_below HR1.out HB.out) | (with_reducible refine Kd.C_alloc ?_ _) | (with_reducible refine Kd.C_drewN ?_ _) | (with_reducible refine Kd.C_drew ?_))); (case side2 => exact HC1.out); rintro e w' ⟨rfl, ⟨nd, rfl⟩⟩; (try first | exact ⟨rfl, _, World.drewN_drewN _ _ _⟩ | exact ⟨rfl, _, Eq.trans (World.drewN_drewN _ _ _) (congrArg (World.drewN _) (Nat.add_assoc _ _ _))⟩); have hcz32_0 : w9.cell? ⟨gb204, 0, none⟩ = some (.slice A2_0 l2_0.length c2_0) := (blk_cell BK204.out 0).trans rfl; have hfz32_0 := blk_frozen BK204.out 0) | (go_at_call 7; (with_reducible refine (antiquaryref27_Few.calls k _ _ l2_0 true _ ?side1 ?side2 A12.out).mono ?_); (case side1 => repeat (first | exact (Kd.C_below HR2_0.out (by repeat (first | (with_reducible first | exact HB.out | apply below_alloc | apply pw_below_drewN | apply below_drew1 | refine below_set ?_ GE204.out) | exact HB.out))) | (with_reducible refine Kd.C_alloc ?_ _) | (with_reducible refine Kd.C_drewN ?_ _) | (with_reducible refine Kd.C_drew ?_))); (case side2 => exact HC2_0.out); rintro e w33 ⟨rfl, hb⟩; have n0_ := Aside0.mk (blk_below (g := gb204) (o := .cells #[.slice A2_0 l2_0.length c2_0] 25 (0, 0)) (by (with_reducible repeat (first | refine blk_drewN ?_ _ | refine blk_drew ?_ | refine blk_alloc ?_ _)); exact BK204.out) hb); have n1_ := Aside0.mk (below_step (by repeat (first | (with_reducible first | exact HB.out | apply below_alloc | apply pw_below_drewN | apply below_drew1 | refine below_set ?_ GE204.out) | exact HB.out)) hb); clear BK204; clear HB; have BK204 := n0_; have HB := n1_; clear n0_ n1_; (try clear hb); (try clear hb2); (try clear hk); (try clear hi); have hcz34_0 : w33.cell? ⟨gb204, 0, none⟩ = some (.slice A2_0 l2_0.length c2_0) := (blk_cell BK204.out 0).trans rfl; have hfz34_0 := blk_frozen BK204.out 0) | (go_at_call 8; (with_reducible refine (antiquaryref27_Right.calls k a0 _ _ l1 _ _ l2_0 false _ ?side1 ?side2 ?side3 ?side4 A14.out).mono ?_); (case side1 => repeat (first | exact (Kd.C_below HR1.out HB.out) | (with_reducible refine Kd.C_alloc ?_ _) | (with_reducible refine Kd.C_drewN ?_ _) | (with_reducible refine Kd.C_drew ?_))); (case side2 => exact HC1.out); (case side3 => repeat (first | exact (Kd.C_below HR2_0.out HB.out) | (with_reducible refine Kd.C_alloc ?_ _) | (with_reducible refine Kd.C_drewN ?_ _) | (with_reducible refine Kd.C_drew ?_))); (case side4 => exact HC2_0.out); rintro e w35 ⟨rfl, hb⟩; have n0_ := Aside0.mk (blk_below (g := gb204) (o := .cells #[.slice A2_0 l2_0.length c2_0] 25 (0, 0)) (by (with_reducible repeat (first | refine blk_drewN ?_ _ | refine blk_drew ?_ | refine blk_alloc ?_ _)); exact BK204.out) hb); have n1_ := Aside0.mk (below_step (by repeat (first | (with_reducible first | exact HB.out | apply below_alloc | apply pw_below_drewN | apply below_drew1 | refine below_set ?_ GE204.out) | exact HB.out)) hb); clear BK204; clear HB; have BK204 := n0_; have HB := n1_; clear n0_ n1_; (try clear hb); (try clear hb2); (try clear hk); (try clear hi)))
          repeat (go_quiet (first | (go_at_call 6; (with_reducible refine (antiquaryref09_Few.calls k _ _ l1 25 true _ ?side1 ?side2 A10.out).mono ?_); (case side1 => repeat (first | exact (Kd.C_below HR1.out HB.out) | (with_reducible refine Kd.C_alloc ?_ _) | (with_reducible refine Kd.C_drewN ?_ _) | (with_reducible refine Kd.C_drew ?_))); (case side2 => exact HC1.out); rintro e w' ⟨rfl, ⟨nd, rfl⟩⟩; (try first | exact ⟨rfl, _, World.drewN_drewN _ _ _⟩ | exact ⟨rfl, _, Eq.trans (World.drewN_drewN _ _ _) (congrArg (World.drewN _) (Nat.add_assoc _ _ _))⟩); have hcz32_0 : w9.cell? ⟨gb204, 0, none⟩ = some (.slice A2_0 l2_0.length c2_0) := (blk_cell BK204.out 0).trans rfl; have hfz32_0 := blk_frozen BK204.out 0) | (go_at_call 7; (with_reducible refine (antiquaryref27_Few.calls k _ _ l2_0 true _ ?side1 ?side2 A12.out).mono ?_); (case side1 => repeat (first | exact (Kd.C_below HR2_0.out (by repeat (first | (with_reducible first | exact HB.out | apply below_alloc | apply pw_below_drewN | apply below_drew1 | refine below_set ?_ GE204.out) | exact HB.out))) | (with_reducible refine Kd.C_alloc ?_ _) | (with_reducible refine Kd.C_drewN ?_ _) | (with_reducible refine Kd.C_drew ?_))); (case side2 => exact HC2_0.out); rintro e w33 ⟨rfl, hb⟩; have n0_ := Aside0.mk (blk_below (g := gb204) (o := .cells #[.slice A2_0 l2_0.length c2_0] 25 (0, 0)) (by (with_reducible repeat (first | refine blk_drewN ?_ _ | refine blk_drew ?_ | refine blk_alloc ?_ _)); exact BK204.out) hb); have n1_ := Aside0.mk (below_step (by repeat (first | (with_reducible first | exact HB.out | apply below_alloc | apply pw_below_drewN | apply below_drew1 | refine below_set ?_ GE204.out) | exact HB.out)) hb); clear BK204; clear HB; have BK204 := n0_; have HB := n1_; clear n0_ n1_; (try clear hb); (try clear hb2); (try clear hk); (try clear hi); have hcz34_0 : w33.cell? ⟨gb204, 0, none⟩ = some (.slice A2_0 l2_0.length c2_0) := (blk_cell BK204.out 0).trans rfl; have hfz34_0 := blk_frozen BK204.out 0) | (go_at_call 8; (with_reducible refine (antiquaryref27_Right.calls k a0 _ _ l1 _ _ l2_0 false _ ?side1 ?side2 ?side3 ?side4 A14.out).mono ?_); (case side1 => repeat (first | exact (Kd.C_below HR1.out HB.out) | (with_reducible refine Kd.C_alloc ?_ _) | (with_reducible refine Kd.C_drewN ?_ _) | (with_reducible refine Kd.C_drew ?_))); (case side2 => exact HC1.out); (case side3 => repeat (first | exact (Kd.C_below HR2_0.out HB.out) | (with_reducible refine Kd.C_alloc ?_ _) | (with_reducible refine Kd.C_drewN ?_ _) | (with_reducible refine Kd.C_drew ?_))); (case side4 => exact HC2_0.out); rintro e w35 ⟨rfl, hb⟩; have n0_ := Aside0.mk (blk_below (g := gb204) (o := .cells #[.slice A2_0 l2_0.length c2_0] 25 (0, 0)) (by (with_reducible repeat (first | refine blk_drewN ?_ _ | refine blk_drew ?_ | refine blk_alloc ?_ _)); exact BK204.out) hb); have n1_ := Aside0.mk (below_step (by repeat (first | (with_reducible first | exact HB.out | apply below_alloc | apply pw_below_drewN | apply below_drew1 | refine below_set ?_ GE204.out) | exact HB.out)) hb); clear BK204; clear HB; have BK204 := n0_; have HB := n1_; clear n0_ n1_; (try clear hb); (try clear hb2); (try clear hk); (try clear hi))); try go_wp2_with (first | (go_at_call 6; (with_reducible refine (antiquaryref09_Few.calls k _ _ l1 25 true _ ?side1 ?side2 A10.out).mono ?_); (case side1 => repeat (first | exact (Kd.C_below HR1.out HB.out) | (with_reducible refine Kd.C_alloc ?_ _) | (with_reducible refine Kd.C_drewN ?_ _) | (with_reducible refine Kd.C_drew ?_))); (case side2 => exact HC1.out); rintro e w' ⟨rfl, ⟨nd, rfl⟩⟩; (try first | exact ⟨rfl, _, World.drewN_drewN _ _ _⟩ | exact ⟨rfl, _, Eq.trans (World.drewN_drewN _ _ _) (congrArg (World.drewN _) (Nat.add_assoc _ _ _))⟩); have hcz32_0 : w9.cell? ⟨gb204, 0, none⟩ = some (.slice A2_0 l2_0.length c2_0) := (blk_cell BK204.out 0).trans rfl; have hfz32_0 := blk_frozen BK204.out 0) | (go_at_call 7; (with_reducible refine (antiquaryref27_Few.calls k _ _ l2_0 true _ ?side1 ?side2 A12.out).mono ?_); (case side1 => repeat (first | exact (Kd.C_below HR2_0.out (by repeat (first | (with_reducible first | exact HB.out | apply below_alloc | apply pw_below_drewN | apply below_drew1 | refine below_set ?_ GE204.out) | exact HB.out))) | (with_reducible refine Kd.C_alloc ?_ _) | (with_reducible refine Kd.C_drewN ?_ _) | (with_reducible refine Kd.C_drew ?_))); (case side2 => exact HC2_0.out); rintro e w33 ⟨rfl, hb⟩; have n0_ := Aside0.mk (blk_below (g := gb204) (o := .cells #[.slice A2_0 l2_0.length c2_0] 25 (0, 0)) (by (with_reducible repeat (first | refine blk_drewN ?_ _ | refine blk_drew ?_ | refine blk_alloc ?_ _)); exact BK204.out) hb); have n1_ := Aside0.mk (below_step (by repeat (first | (with_reducible first | exact HB.out | apply below_alloc | apply pw_below_drewN | apply below_drew1 | refine below_set ?_ GE204.out) | exact HB.out)) hb); clear BK204; clear HB; have BK204 := n0_; have HB := n1_; clear n0_ n1_; (try clear hb); (try clear hb2); (try clear hk); (try clear hi); have hcz34_0 : w33.cell? ⟨gb204, 0, none⟩ = some (.slice A2_0 l2_0.length c2_0) := (blk_cell BK204.out 0).trans rfl; have hfz34_0 := blk_frozen BK204.out 0) | (go_at_call 8; (with_reducible refine (antiquaryref27_Right.calls k a0 _ _ l1 _ _ l2_0 false _ ?side1 ?side2 ?side3 ?side4 A14.out).mono ?_); (case side1 => repeat (first | exact (Kd.C_below HR1.out HB.out) | (with_reducible refine Kd.C_alloc ?_ _) | (with_reducible refine Kd.C_drewN ?_ _) | (with_reducible refine Kd.C_drew ?_))); (case side2 => exact HC1.out); (case side3 => repeat (first | exact (Kd.C_below HR2_0.out HB.out) | (with_reducible refine Kd.C_alloc ?_ _) | (with_reducible refine Kd.C_drewN ?_ _) | (with_reducible refine Kd.C_drew ?_))); (case side4 => exact HC2_0.out); rintro e w35 ⟨rfl, hb⟩; have n0_ := Aside0.mk (blk_below (g := gb204) (o := .cells #[.slice A2_0 l2_0.length c2_0] 25 (0, 0)) (by (with_reducible repeat (first | refine blk_drewN ?_ _ | refine blk_drew ?_ | refine blk_alloc ?_ _)); exact BK204.out) hb); have n1_ := Aside0.mk (below_step (by repeat (first | (with_reducible first | exact HB.out | apply below_alloc | apply pw_below_drewN | apply below_drew1 | refine below_set ?_ GE204.out) | exact HB.out)) hb); clear BK204; clear HB; have BK204 := n0_; have HB := n1_; clear n0_ n1_; (try clear hb); (try clear hb2); (try clear hk); (try clear hi))))
          go_meet
          case rel => exact ⟨_, (true), (by first | rfl | (simp; done) | (simp [*]; done)), H', ⟨by first | omega | exact Nat.le_refl _⟩, ⟨by (with_reducible repeat (first | refine blk_drewN ?_ _ | refine blk_drew ?_ | refine blk_alloc ?_ _)); exact BK204.out⟩, ⟨by repeat (first | (with_reducible first | exact HB.out | apply below_alloc | apply pw_below_drewN | apply below_drew1 | refine below_set ?_ GE204.out) | exact HB.out)⟩⟩
      · replace c13 := Bool.eq_false_iff.mpr c13
        subst c13
        have H1 : (lawWD.j0 k a0 l1 l3 a4 a5 a6 true l2_0) = some r := by rw [if_neg (show ¬ (false = true) by decide)] at H; exact H
        clear H
        have H := H1
        clear H1
        have H' := Aside0.mk H
        clear H
        go_wp2_with (first | (go_at_call 6; (with_reducible refine (antiquaryref09_Few.calls k _ _ l1 25 true _ ?side1 ?side2 A10.out).mono ?_); (case side1 => repeat (first | exact (Kd.C_below HR1.out HB.out) | (with_reducible refine Kd.C_alloc ?_ _) | (with_reducible refine Kd.C_drewN ?_ _) | (with_reducible refine Kd.C_drew ?_))); (case side2 => exact HC1.out); rintro e w' ⟨rfl, ⟨nd, rfl⟩⟩; (try first | exact ⟨rfl, _, World.drewN_drewN _ _ _⟩ | exact ⟨rfl, _, Eq.trans (World.drewN_drewN _ _ _) (congrArg (World.drewN _) (Nat.add_assoc _ _ _))⟩); have hcz36_0 : w9.cell? ⟨gb204, 0, none⟩ = some (.slice A2_0 l2_0.length c2_0) := (blk_cell BK204.out 0).trans rfl; have hfz36_0 := blk_frozen BK204.out 0) | (go_at_call 7; (with_reducible refine (antiquaryref27_Few.calls k _ _ l2_0 false _ ?side1 ?side2 A12.out).mono ?_); (case side1 => repeat (first | exact (Kd.C_below HR2_0.out (by repeat (first | (with_reducible first | exact HB.out | apply below_alloc | apply pw_below_drewN | apply below_drew1 | refine below_set ?_ GE204.out) | exact HB.out))) | (with_reducible refine Kd.C_alloc ?_ _) | (with_reducible refine Kd.C_drewN ?_ _) | (with_reducible refine Kd.C_drew ?_))); (case side2 => exact HC2_0.out); rintro e w37 ⟨rfl, hb⟩; have n0_ := Aside0.mk (blk_below (g := gb204) (o := .cells #[.slice A2_0 l2_0.length c2_0] 25 (0, 0)) (by (with_reducible repeat (first | refine blk_drewN ?_ _ | refine blk_drew ?_ | refine blk_alloc ?_ _)); exact BK204.out) hb); have n1_ := Aside0.mk (below_step (by repeat (first | (with_reducible first | exact HB.out | apply below_alloc | apply pw_below_drewN | apply below_drew1 | refine below_set ?_ GE204.out) | exact HB.out)) hb); clear BK204; clear HB; have BK204 := n0_; have HB := n1_; clear n0_ n1_; (try clear hb); (try clear hb2); (try clear hk); (try clear hi)))
        repeat (go_quiet (first | (go_at_call 6; (with_reducible refine (antiquaryref09_Few.calls k _ _ l1 25 true _ ?side1 ?side2 A10.out).mono ?_); (case side1 => repeat (first | exact (Kd.C_below HR1.out HB.out) | (with_reducible refine Kd.C_alloc ?_ _) | (with_reducible refine Kd.C_drewN ?_ _) | (with_reducible refine Kd.C_drew ?_))); (case side2 => exact HC1.out); rintro e w' ⟨rfl, ⟨nd, rfl⟩⟩; (try first | exact ⟨rfl, _, World.drewN_drewN _ _ _⟩ | exact ⟨rfl, _, Eq.trans (World.drewN_drewN _ _ _) (congrArg (World.drewN _) (Nat.add_assoc _ _ _))⟩); have hcz36_0 : w9.cell? ⟨gb204, 0, none⟩ = some (.slice A2_0 l2_0.length c2_0) := (blk_cell BK204.out 0).trans rfl; have hfz36_0 := blk_frozen BK204.out 0) | (go_at_call 7; (with_reducible refine (antiquaryref27_Few.calls k _ _ l2_0 false _ ?side1 ?side2 A12.out).mono ?_); (case side1 => repeat (first | exact (Kd.C_below HR2_0.out (by repeat (first | (with_reducible first | exact HB.out | apply below_alloc | apply pw_below_drewN | apply below_drew1 | refine below_set ?_ GE204.out) | exact HB.out))) | (with_reducible refine Kd.C_alloc ?_ _) | (with_reducible refine Kd.C_drewN ?_ _) | (with_reducible refine Kd.C_drew ?_))); (case side2 => exact HC2_0.out); rintro e w37 ⟨rfl, hb⟩; have n0_ := Aside0.mk (blk_below (g := gb204) (o := .cells #[.slice A2_0 l2_0.length c2_0] 25 (0, 0)) (by (with_reducible repeat (first | refine blk_drewN ?_ _ | refine blk_drew ?_ | refine blk_alloc ?_ _)); exact BK204.out) hb); have n1_ := Aside0.mk (below_step (by repeat (first | (with_reducible first | exact HB.out | apply below_alloc | apply pw_below_drewN | apply below_drew1 | refine below_set ?_ GE204.out) | exact HB.out)) hb); clear BK204; clear HB; have BK204 := n0_; have HB := n1_; clear n0_ n1_; (try clear hb); (try clear hb2); (try clear hk); (try clear hi))); try go_wp2_with (first | (go_at_call 6; (with_reducible refine (antiquaryref09_Few.calls k _ _ l1 25 true _ ?side1 ?side2 A10.out).mono ?_); (case side1 => repeat (first | exact (Kd.C_below HR1.out HB.out) | (with_reducible refine Kd.C_alloc ?_ _) | (with_reducible refine Kd.C_drewN ?_ _) | (with_reducible refine Kd.C_drew ?_))); (case side2 => exact HC1.out); rintro e w' ⟨rfl, ⟨nd, rfl⟩⟩; (try first | exact ⟨rfl, _, World.drewN_drewN _ _ _⟩ | exact ⟨rfl, _, Eq.trans (World.drewN_drewN _ _ _) (congrArg (World.drewN _) (Nat.add_assoc _ _ _))⟩); have hcz36_0 : w9.cell? ⟨gb204, 0, none⟩ = some (.slice A2_0 l2_0.length c2_0) := (blk_cell BK204.out 0).trans rfl; have hfz36_0 := blk_frozen BK204.out 0) | (go_at_call 7; (with_reducible refine (antiquaryref27_Few.calls k _ _ l2_0 false _ ?side1 ?side2 A12.out).mono ?_); (case side1 => repeat (first | exact (Kd.C_below HR2_0.out (by repeat (first | (with_reducible first | exact HB.out | apply below_alloc | apply pw_below_drewN | apply below_drew1 | refine below_set ?_ GE204.out) | exact HB.out))) | (with_reducible refine Kd.C_alloc ?_ _) | (with_reducible refine Kd.C_drewN ?_ _) | (with_reducible refine Kd.C_drew ?_))); (case side2 => exact HC2_0.out); rintro e w37 ⟨rfl, hb⟩; have n0_ := Aside0.mk (blk_below (g := gb204) (o := .cells #[.slice A2_0 l2_0.length c2_0] 25 (0, 0)) (by (with_reducible repeat (first | refine blk_drewN ?_ _ | refine blk_drew ?_ | refine blk_alloc ?_ _)); exact BK204.out) hb); have n1_ := Aside0.mk (below_step (by repeat (first | (with_reducible first | exact HB.out | apply below_alloc | apply pw_below_drewN | apply below_drew1 | refine below_set ?_ GE204.out) | exact HB.out)) hb); clear BK204; clear HB; have BK204 := n0_; have HB := n1_; clear n0_ n1_; (try clear hb); (try clear hb2); (try clear hk); (try clear hi))))
        go_meet
        case rel => exact ⟨_, (true), (by first | rfl | (simp; done) | (simp [*]; done)), H', ⟨by first | omega | exact Nat.le_refl _⟩, ⟨by (with_reducible repeat (first | refine blk_drewN ?_ _ | refine blk_drew ?_ | refine blk_alloc ?_ _)); exact BK204.out⟩, ⟨by repeat (first | (with_reducible first | exact HB.out | apply below_alloc | apply pw_below_drewN | apply below_drew1 | refine below_set ?_ GE204.out) | exact HB.out)⟩⟩
    · replace c11 := Bool.eq_false_iff.mpr c11
      subst c11
      have H1 : (lawWD.j0 k a0 l1 l3 a4 a5 a6 true l2_0) = some r := by rw [if_neg (show ¬ (false = true) by decide)] at H; exact H
      clear H
      have H := H1
      clear H1
      have H' := Aside0.mk H
      clear H
      go_wp2_with (first | (go_at_call 6; (with_reducible refine (antiquaryref09_Few.calls k _ _ l1 25 false _ ?side1 ?side2 A10.out).mono ?_); (case side1 => repeat (first | exact (Kd.C_below HR1.out HB.out) | (with_reducible refine Kd.C_alloc ?_ _) | (with_reducible refine Kd.C_drewN ?_ _) | (with_reducible refine Kd.C_drew ?_))); (case side2 => exact HC1.out); rintro e w' ⟨rfl, ⟨nd, rfl⟩⟩; (try first | exact ⟨rfl, _, World.drewN_drewN _ _ _⟩ | exact ⟨rfl, _, Eq.trans (World.drewN_drewN _ _ _) (congrArg (World.drewN _) (Nat.add_assoc _ _ _))⟩)))
      repeat (go_quiet (first | (go_at_call 6; (with_reducible refine (antiquaryref09_Few.calls k _ _ l1 25 false _ ?side1 ?side2 A10.out).mono ?_); (case side1 => repeat (first | exact (Kd.C_below HR1.out HB.out) | (with_reducible refine Kd.C_alloc ?_ _) | (with_reducible refine Kd.C_drewN ?_ _) | (with_reducible refine Kd.C_drew ?_))); (case side2 => exact HC1.out); rintro e w' ⟨rfl, ⟨nd, rfl⟩⟩; (try first | exact ⟨rfl, _, World.drewN_drewN _ _ _⟩ | exact ⟨rfl, _, Eq.trans (World.drewN_drewN _ _ _) (congrArg (World.drewN _) (Nat.add_assoc _ _ _))⟩))); try go_wp2_with (first | (go_at_call 6; (with_reducible refine (antiquaryref09_Few.calls k _ _ l1 25 false _ ?side1 ?side2 A10.out).mono ?_); (case side1 => repeat (first | exact (Kd.C_below HR1.out HB.out) | (with_reducible refine Kd.C_alloc ?_ _) | (with_reducible refine Kd.C_drewN ?_ _) | (with_reducible refine Kd.C_drew ?_))); (case side2 => exact HC1.out); rintro e w' ⟨rfl, ⟨nd, rfl⟩⟩; (try first | exact ⟨rfl, _, World.drewN_drewN _ _ _⟩ | exact ⟨rfl, _, Eq.trans (World.drewN_drewN _ _ _) (congrArg (World.drewN _) (Nat.add_assoc _ _ _))⟩))))
      go_meet
      case rel => exact ⟨_, (true), (by first | rfl | (simp; done) | (simp [*]; done)), H', ⟨by first | omega | exact Nat.le_refl _⟩, ⟨by (with_reducible repeat (first | refine blk_drewN ?_ _ | refine blk_drew ?_ | refine blk_alloc ?_ _)); exact BK204.out⟩, ⟨by repeat (first | (with_reducible first | exact HB.out | apply below_alloc | apply pw_below_drewN | apply below_drew1 | refine below_set ?_ GE204.out) | exact HB.out)⟩⟩
  case rest => as_aux_lemma =>
    clear HC8
    (try clear c1); (try clear c2); (try clear p2); (try clear q2); (try clear hx2); (try clear qi2); (try clear c3); (try clear c11); (try clear c13); (try clear c15); (try clear c16); (try clear c16b0); (try clear c16b1); (try clear c18); (try clear c19); (try clear c19b0); (try clear c20); (try clear p20); (try clear q20); (try clear hx20); (try clear qi20); (try clear hcz20_0); (try clear hcz22_0); (try clear hcz24_0); (try clear hcz26_0); (try clear hcz28_0); (try clear hcz30_0); (try clear hcz32_0); (try clear hcz34_0); (try clear hcz36_0); (try clear hfz20_0); (try clear hfz22_0); (try clear hfz24_0); (try clear hfz26_0); (try clear hfz28_0); (try clear hfz30_0); (try clear hfz32_0); (try clear hfz34_0); (try clear hfz36_0); (try clear hx208_0); (try clear p208); (try clear q208)
    obtain ⟨kq, x63_7, rfl, HA, HJ7, BK204, HB⟩ := hcut
    cases kq with
    | zero => exact absurd HA.out (by simp [lawWD.j0])
    | succ kj7 =>
      have H := HA.out
      clear HA
      simp only [lawWD.j0] at H
      by_cases c38 : x63_7 = true
      · subst c38
        have H1 : ((antiquarylaw27_sanity.f).bind fun t210 => (some t210)) = some r := by rw [if_pos rfl] at H; exact H
        clear H
        have H := H1
        clear H1
        replace H := Option.bind_eq_some_iff.mp H
        obtain ⟨t210, A390, H⟩ := H
        replace H : (some t210) = some r := H
        have A39 := Aside0.mk A390
        clear A390
        obtain rfl := Option.some.inj H
        go_wp2_with (first | (go_at_call 10; (with_reducible refine (antiquarylaw27_sanity.calls  t210 _ A39.out).mono ?_); rintro e w40 ⟨rfl, hb⟩; have n0_ := Aside0.mk (blk_below (g := gb204) (o := .cells #[.slice A2_0 l2_0.length c2_0] 25 (0, 0)) (by (with_reducible repeat (first | refine blk_drewN ?_ _ | refine blk_drew ?_ | refine blk_alloc ?_ _)); exact BK204.out) hb); have n1_ := Aside0.mk (below_step (by repeat (first | (with_reducible first | exact HB.out | apply below_alloc | apply pw_below_drewN | apply below_drew1 | refine below_set ?_ GE204.out) | exact HB.out)) hb); clear BK204; clear HB; have BK204 := n0_; have HB := n1_; clear n0_ n1_; (try clear hb); (try clear hb2); (try clear hk); (try clear hi)))
        repeat (go_quiet (first | (go_at_call 10; (with_reducible refine (antiquarylaw27_sanity.calls  t210 _ A39.out).mono ?_); rintro e w40 ⟨rfl, hb⟩; have n0_ := Aside0.mk (blk_below (g := gb204) (o := .cells #[.slice A2_0 l2_0.length c2_0] 25 (0, 0)) (by (with_reducible repeat (first | refine blk_drewN ?_ _ | refine blk_drew ?_ | refine blk_alloc ?_ _)); exact BK204.out) hb); have n1_ := Aside0.mk (below_step (by repeat (first | (with_reducible first | exact HB.out | apply below_alloc | apply pw_below_drewN | apply below_drew1 | refine below_set ?_ GE204.out) | exact HB.out)) hb); clear BK204; clear HB; have BK204 := n0_; have HB := n1_; clear n0_ n1_; (try clear hb); (try clear hb2); (try clear hk); (try clear hi))); try go_wp2_with (first | (go_at_call 10; (with_reducible refine (antiquarylaw27_sanity.calls  t210 _ A39.out).mono ?_); rintro e w40 ⟨rfl, hb⟩; have n0_ := Aside0.mk (blk_below (g := gb204) (o := .cells #[.slice A2_0 l2_0.length c2_0] 25 (0, 0)) (by (with_reducible repeat (first | refine blk_drewN ?_ _ | refine blk_drew ?_ | refine blk_alloc ?_ _)); exact BK204.out) hb); have n1_ := Aside0.mk (below_step (by repeat (first | (with_reducible first | exact HB.out | apply below_alloc | apply pw_below_drewN | apply below_drew1 | refine below_set ?_ GE204.out) | exact HB.out)) hb); clear BK204; clear HB; have BK204 := n0_; have HB := n1_; clear n0_ n1_; (try clear hb); (try clear hb2); (try clear hk); (try clear hi))))
        go_ret
        exact ⟨by first | rfl | (simp [errW_none, errW_some] <;> rfl) | (simp [*, errW_none, errW_some] <;> rfl), by repeat (first | (with_reducible first | exact HB.out | apply below_alloc | apply pw_below_drewN | apply below_drew1 | refine below_set ?_ GE204.out) | exact HB.out)⟩
      · replace c38 := Bool.eq_false_iff.mpr c38
        subst c38
        have H1 : (if (l1.length : Int) = 0 then (none) else ((graph_Walk.f a0 l1 l2_0 l3 (Int.tmod (wrap64 (a4)) (l1.length : Int))).bind fun bt211 => ((graph_Within.f a0 l1 l2_0 l3 (Int.tmod (wrap64 (a4)) (l1.length : Int)) a5).bind fun bt215 => ((graph_Nearest.f a0 l1 l2_0 l3 (Int.tmod (wrap64 (a4)) (l1.length : Int)) (wrap64 (1 + (Int.tmod (wrap64 (a6)) 64)))).bind fun bt221 => (if bt211.2 = 0 then (if bt215.2.2.2 = 0 then (if bt221.2.2.2 = 0 then (if (bt211.1.length : Int) = 0 then (lawWD.j1 kj7 a0 l1 l3 bt211.1 bt215.2.1 true l2_0) else (if (bt211.1.length : Int) > (l1.length : Int) then (lawWD.j1 kj7 a0 l1 l3 bt211.1 bt215.2.1 true l2_0) else (if 0 < (bt211.1.length : Int) then (if (rd bt211.1 0) = (Int.tmod (wrap64 (a4)) (l1.length : Int)) then (if 0 ≤ (wrap64 ((bt211.1.length : Int) - 1)) then (if (wrap64 ((bt211.1.length : Int) - 1)) < (bt211.1.length : Int) then (lawWD.j1 kj7 a0 l1 l3 bt211.1 bt215.2.1 ((rd bt211.1 (wrap64 ((bt211.1.length : Int) - 1))) != bt221.2.1) l2_0) else (none)) else (none)) else (lawWD.j1 kj7 a0 l1 l3 bt211.1 bt215.2.1 true l2_0)) else (none)))) else (lawWD.j1 kj7 a0 l1 l3 bt211.1 bt215.2.1 true l2_0)) else (lawWD.j1 kj7 a0 l1 l3 bt211.1 bt215.2.1 true l2_0)) else (lawWD.j1 kj7 a0 l1 l3 bt211.1 bt215.2.1 true l2_0)))))) = some r := by rw [if_neg (show ¬ (false = true) by decide)] at H; exact H
        clear H
        have H := H1
        clear H1
        by_cases c41 : (l1.length : Int) = 0
        · rw [if_pos c41] at H
          exact absurd H (by simp)
        · rw [if_neg c41] at H
          have c41b0 : ((l1.length : Int) == 0) = false := beq_eq_false_iff_ne.mpr c41
          have c41b1 : ((l1.length : Int) != 0) = true := bne_iff_ne.mpr c41
          have c41b2 : ¬ (l1 = []) := fun h_ => c41 (by rw [h_]; rfl)
          replace H := Option.bind_eq_some_iff.mp H
          obtain ⟨⟨t211, t214⟩, A420, H⟩ := H
          replace H : ((graph_Within.f a0 l1 l2_0 l3 (Int.tmod (wrap64 (a4)) (l1.length : Int)) a5).bind fun bt215 => ((graph_Nearest.f a0 l1 l2_0 l3 (Int.tmod (wrap64 (a4)) (l1.length : Int)) (wrap64 (1 + (Int.tmod (wrap64 (a6)) 64)))).bind fun bt221 => (if t214 = 0 then (if bt215.2.2.2 = 0 then (if bt221.2.2.2 = 0 then (if (t211.length : Int) = 0 then (lawWD.j1 kj7 a0 l1 l3 t211 bt215.2.1 true l2_0) else (if (t211.length : Int) > (l1.length : Int) then (lawWD.j1 kj7 a0 l1 l3 t211 bt215.2.1 true l2_0) else (if 0 < (t211.length : Int) then (if (rd t211 0) = (Int.tmod (wrap64 (a4)) (l1.length : Int)) then (if 0 ≤ (wrap64 ((t211.length : Int) - 1)) then (if (wrap64 ((t211.length : Int) - 1)) < (t211.length : Int) then (lawWD.j1 kj7 a0 l1 l3 t211 bt215.2.1 ((rd t211 (wrap64 ((t211.length : Int) - 1))) != bt221.2.1) l2_0) else (none)) else (none)) else (lawWD.j1 kj7 a0 l1 l3 t211 bt215.2.1 true l2_0)) else (none)))) else (lawWD.j1 kj7 a0 l1 l3 t211 bt215.2.1 true l2_0)) else (lawWD.j1 kj7 a0 l1 l3 t211 bt215.2.1 true l2_0)) else (lawWD.j1 kj7 a0 l1 l3 t211 bt215.2.1 true l2_0)))) = some r := H
          have A42 := Aside0.mk A420
          clear A420
          replace H := Option.bind_eq_some_iff.mp H
          obtain ⟨⟨t215, t218, t219, t220⟩, A430, H⟩ := H
          replace H : ((graph_Nearest.f a0 l1 l2_0 l3 (Int.tmod (wrap64 (a4)) (l1.length : Int)) (wrap64 (1 + (Int.tmod (wrap64 (a6)) 64)))).bind fun bt221 => (if t214 = 0 then (if t220 = 0 then (if bt221.2.2.2 = 0 then (if (t211.length : Int) = 0 then (lawWD.j1 kj7 a0 l1 l3 t211 t218 true l2_0) else (if (t211.length : Int) > (l1.length : Int) then (lawWD.j1 kj7 a0 l1 l3 t211 t218 true l2_0) else (if 0 < (t211.length : Int) then (if (rd t211 0) = (Int.tmod (wrap64 (a4)) (l1.length : Int)) then (if 0 ≤ (wrap64 ((t211.length : Int) - 1)) then (if (wrap64 ((t211.length : Int) - 1)) < (t211.length : Int) then (lawWD.j1 kj7 a0 l1 l3 t211 t218 ((rd t211 (wrap64 ((t211.length : Int) - 1))) != bt221.2.1) l2_0) else (none)) else (none)) else (lawWD.j1 kj7 a0 l1 l3 t211 t218 true l2_0)) else (none)))) else (lawWD.j1 kj7 a0 l1 l3 t211 t218 true l2_0)) else (lawWD.j1 kj7 a0 l1 l3 t211 t218 true l2_0)) else (lawWD.j1 kj7 a0 l1 l3 t211 t218 true l2_0))) = some r := H
          have A43 := Aside0.mk A430
          clear A430
          replace H := Option.bind_eq_some_iff.mp H
          obtain ⟨⟨t221, t224, t225, t226⟩, A440, H⟩ := H
          replace H : (if t214 = 0 then (if t220 = 0 then (if t226 = 0 then (if (t211.length : Int) = 0 then (lawWD.j1 kj7 a0 l1 l3 t211 t218 true l2_0) else (if (t211.length : Int) > (l1.length : Int) then (lawWD.j1 kj7 a0 l1 l3 t211 t218 true l2_0) else (if 0 < (t211.length : Int) then (if (rd t211 0) = (Int.tmod (wrap64 (a4)) (l1.length : Int)) then (if 0 ≤ (wrap64 ((t211.length : Int) - 1)) then (if (wrap64 ((t211.length : Int) - 1)) < (t211.length : Int) then (lawWD.j1 kj7 a0 l1 l3 t211 t218 ((rd t211 (wrap64 ((t211.length : Int) - 1))) != t224) l2_0) else (none)) else (none)) else (lawWD.j1 kj7 a0 l1 l3 t211 t218 true l2_0)) else (none)))) else (lawWD.j1 kj7 a0 l1 l3 t211 t218 true l2_0)) else (lawWD.j1 kj7 a0 l1 l3 t211 t218 true l2_0)) else (lawWD.j1 kj7 a0 l1 l3 t211 t218 true l2_0)) = some r := H
          have A44 := Aside0.mk A440
          clear A440
          have HC45 := Aside0.mk H
          clear H
          have hcz46_0 : wc.cell? ⟨gb204, 0, none⟩ = some (.slice A2_0 l2_0.length c2_0) := (blk_cell BK204.out 0).trans rfl
          have hfz46_0 := blk_frozen BK204.out 0
          go_upto_region 7 with (first | (go_at_call 11; (with_reducible refine (graph_Walk.calls a0 _ _ l1 _ _ l2_0 _ _ l3 (Int.tmod (wrap64 (a4)) (l1.length : Int)) t211 t214 _ ?side1 ?side2 ?side3 ?side4 ?side5 ?side6 A42.out).mono ?_); (case side1 => repeat (first | exact (Kd.C_below HR1.out HB.out) | (with_reducible refine Kd.C_alloc ?_ _) | (with_reducible refine Kd.C_drewN ?_ _) | (with_reducible refine Kd.C_drew ?_))); (case side2 => exact HC1.out); (case side3 => repeat (first | exact (Kd.C_below HR2_0.out HB.out) | (with_reducible refine Kd.C_alloc ?_ _) | (with_reducible refine Kd.C_drewN ?_ _) | (with_reducible refine Kd.C_drew ?_))); (case side4 => exact HC2_0.out); (case side5 => repeat (first | exact (Kd.C_below HR3.out HB.out) | (with_reducible refine Kd.C_alloc ?_ _) | (with_reducible refine Kd.C_drewN ?_ _) | (with_reducible refine Kd.C_drew ?_))); (case side6 => exact HC3.out); rintro e w47 ⟨v212, rfl, ho0, hb⟩; have n0_ := Aside0.mk (Kd.R_lower ho0 (below_size (by repeat (first | (with_reducible first | exact HB.out | apply below_alloc | apply pw_below_drewN | apply below_drew1 | refine below_set ?_ GE204.out) | exact HB.out)))); have n1_ := Aside0.mk (blk_below (g := gb204) (o := .cells #[.slice A2_0 l2_0.length c2_0] 25 (0, 0)) (by (with_reducible repeat (first | refine blk_drewN ?_ _ | refine blk_drew ?_ | refine blk_alloc ?_ _)); exact BK204.out) hb); have n2_ := Aside0.mk (below_step (by repeat (first | (with_reducible first | exact HB.out | apply below_alloc | apply pw_below_drewN | apply below_drew1 | refine below_set ?_ GE204.out) | exact HB.out)) hb); clear BK204; clear HB; have HO213 := n0_; have BK204 := n1_; have HB := n2_; clear n0_ n1_ n2_; (try clear hb); (try clear hb2); (try clear hk); (try clear hi); (try clear ho0); have hcz48_0 : w47.cell? ⟨gb204, 0, none⟩ = some (.slice A2_0 l2_0.length c2_0) := (blk_cell BK204.out 0).trans rfl; have hfz48_0 := blk_frozen BK204.out 0) | (go_at_call 12; (with_reducible refine (graph_Within.calls a0 _ _ l1 _ _ l2_0 _ _ l3 (Int.tmod (wrap64 (a4)) (l1.length : Int)) a5 t215 t218 t219 t220 _ ?side1 ?side2 ?side3 ?side4 ?side5 ?side6 A43.out).mono ?_); (case side1 => repeat (first | exact (Kd.C_below HR1.out HB.out) | (with_reducible refine Kd.C_alloc ?_ _) | (with_reducible refine Kd.C_drewN ?_ _) | (with_reducible refine Kd.C_drew ?_))); (case side2 => exact HC1.out); (case side3 => repeat (first | exact (Kd.C_below HR2_0.out HB.out) | (with_reducible refine Kd.C_alloc ?_ _) | (with_reducible refine Kd.C_drewN ?_ _) | (with_reducible refine Kd.C_drew ?_))); (case side4 => exact HC2_0.out); (case side5 => repeat (first | exact (Kd.C_below HR3.out HB.out) | (with_reducible refine Kd.C_alloc ?_ _) | (with_reducible refine Kd.C_drewN ?_ _) | (with_reducible refine Kd.C_drew ?_))); (case side6 => exact HC3.out); rintro e w49 ⟨v216, rfl, ho0, hb⟩; have n0_ := Aside0.mk (Kd.R_elder' (by (with_reducible repeat (first | apply Kd.R_alloc | apply Kd.R_drewN | apply Kd.R_drew)); exact HO213.out) (Kd.R_base ho0) hb); have n1_ := Aside0.mk (Kd.R_lower (Kd.R_new' ho0 (Kd.R_lt (by (with_reducible repeat (first | apply Kd.R_alloc | apply Kd.R_drewN | apply Kd.R_drew)); exact HO213.out))) (below_size (by repeat (first | (with_reducible first | exact HB.out | apply below_alloc | apply pw_below_drewN | apply below_drew1 | refine below_set ?_ GE204.out) | exact HB.out)))); have n2_ := Aside0.mk (blk_below (g := gb204) (o := .cells #[.slice A2_0 l2_0.length c2_0] 25 (0, 0)) (by (with_reducible repeat (first | refine blk_drewN ?_ _ | refine blk_drew ?_ | refine blk_alloc ?_ _)); exact BK204.out) hb); have n3_ := Aside0.mk (below_step (by repeat (first | (with_reducible first | exact HB.out | apply below_alloc | apply pw_below_drewN | apply below_drew1 | refine below_set ?_ GE204.out) | exact HB.out)) hb); clear HO213; clear BK204; clear HB; have HO213 := n0_; have HO217 := n1_; have BK204 := n2_; have HB := n3_; clear n0_ n1_ n2_ n3_; (try clear hb); (try clear hb2); (try clear hk); (try clear hi); (try clear ho0); have hcz50_0 : w49.cell? ⟨gb204, 0, none⟩ = some (.slice A2_0 l2_0.length c2_0) := (blk_cell BK204.out 0).trans rfl; have hfz50_0 := blk_frozen BK204.out 0) | (go_at_call 13; (with_reducible refine (graph_Nearest.calls a0 _ _ l1 _ _ l2_0 _ _ l3 (Int.tmod (wrap64 (a4)) (l1.length : Int)) (wrap64 (1 + (Int.tmod (wrap64 (a6)) 64))) t221 t224 t225 t226 _ ?side1 ?side2 ?side3 ?side4 ?side5 ?side6 A44.out).mono ?_); (case side1 => repeat (first | exact (Kd.C_below HR1.out HB.out) | (with_reducible refine Kd.C_alloc ?_ _) | (with_reducible refine Kd.C_drewN ?_ _) | (with_reducible refine Kd.C_drew ?_))); (case side2 => exact HC1.out); (case side3 => repeat (first | exact (Kd.C_below HR2_0.out HB.out) | (with_reducible refine Kd.C_alloc ?_ _) | (with_reducible refine Kd.C_drewN ?_ _) | (with_reducible refine Kd.C_drew ?_))); (case side4 => exact HC2_0.out); (case side5 => repeat (first | exact (Kd.C_below HR3.out HB.out) | (with_reducible refine Kd.C_alloc ?_ _) | (with_reducible refine Kd.C_drewN ?_ _) | (with_reducible refine Kd.C_drew ?_))); (case side6 => exact HC3.out); rintro e w51 ⟨v222, rfl, ho0, hb⟩; have n0_ := Aside0.mk (Kd.R_elder' (by (with_reducible repeat (first | apply Kd.R_alloc | apply Kd.R_drewN | apply Kd.R_drew)); exact HO213.out) (Kd.R_base ho0) hb); have n1_ := Aside0.mk (Kd.R_elder' (by (with_reducible repeat (first | apply Kd.R_alloc | apply Kd.R_drewN | apply Kd.R_drew)); exact HO217.out) (Kd.R_base ho0) hb); have n2_ := Aside0.mk (Kd.R_lower (Kd.R_new' (Kd.R_new' ho0 (Kd.R_lt (by (with_reducible repeat (first | apply Kd.R_alloc | apply Kd.R_drewN | apply Kd.R_drew)); exact HO213.out))) (Kd.R_lt (by (with_reducible repeat (first | apply Kd.R_alloc | apply Kd.R_drewN | apply Kd.R_drew)); exact HO217.out))) (below_size (by repeat (first | (with_reducible first | exact HB.out | apply below_alloc | apply pw_below_drewN | apply below_drew1 | refine below_set ?_ GE204.out) | exact HB.out)))); have n3_ := Aside0.mk (blk_below (g := gb204) (o := .cells #[.slice A2_0 l2_0.length c2_0] 25 (0, 0)) (by (with_reducible repeat (first | refine blk_drewN ?_ _ | refine blk_drew ?_ | refine blk_alloc ?_ _)); exact BK204.out) hb); have n4_ := Aside0.mk (below_step (by repeat (first | (with_reducible first | exact HB.out | apply below_alloc | apply pw_below_drewN | apply below_drew1 | refine below_set ?_ GE204.out) | exact HB.out)) hb); clear HO213; clear HO217; clear BK204; clear HB; have HO213 := n0_; have HO217 := n1_; have HO223 := n2_; have BK204 := n3_; have HB := n4_; clear n0_ n1_ n2_ n3_ n4_; (try clear hb); (try clear hb2); (try clear hk); (try clear hi); (try clear ho0)))
          repeat (go_quiet (first | (go_at_call 11; (with_reducible refine (graph_Walk.calls a0 _ _ l1 _ _ l2_0 _ _ l3 (Int.tmod (wrap64 (a4)) (l1.length : Int)) t211 t214 _ ?side1 ?side2 ?side3 ?side4 ?side5 ?side6 A42.out).mono ?_); (case side1 => repeat (first | exact (Kd.C_below HR1.out HB.out) | (with_reducible refine Kd.C_alloc ?_ _) | (with_reducible refine Kd.C_drewN ?_ _) | (with_reducible refine Kd.C_drew ?_))); (case side2 => exact HC1.out); (case side3 => repeat (first | exact (Kd.C_below HR2_0.out HB.out) | (with_reducible refine Kd.C_alloc ?_ _) | (with_reducible refine Kd.C_drewN ?_ _) | (with_reducible refine Kd.C_drew ?_))); (case side4 => exact HC2_0.out); (case side5 => repeat (first | exact (Kd.C_below HR3.out HB.out) | (with_reducible refine Kd.C_alloc ?_ _) | (with_reducible refine Kd.C_drewN ?_ _) | (with_reducible refine Kd.C_drew ?_))); (case side6 => exact HC3.out); rintro e w47 ⟨v212, rfl, ho0, hb⟩; have n0_ := Aside0.mk (Kd.R_lower ho0 (below_size (by repeat (first | (with_reducible first | exact HB.out | apply below_alloc | apply pw_below_drewN | apply below_drew1 | refine below_set ?_ GE204.out) | exact HB.out)))); have n1_ := Aside0.mk (blk_below (g := gb204) (o := .cells #[.slice A2_0 l2_0.length c2_0] 25 (0, 0)) (by (with_reducible repeat (first | refine blk_drewN ?_ _ | refine blk_drew ?_ | refine blk_alloc ?_ _)); exact BK204.out) hb); have n2_ := Aside0.mk (below_step (by repeat (first | (with_reducible first | exact HB.out | apply below_alloc | apply pw_below_drewN | apply below_drew1 | refine below_set ?_ GE204.out) | exact HB.out)) hb); clear BK204; clear HB; have HO213 := n0_; have BK204 := n1_; have HB := n2_; clear n0_ n1_ n2_; (try clear hb); (try clear hb2); (try clear hk); (try clear hi); (try clear ho0); have hcz48_0 : w47.cell? ⟨gb204, 0, none⟩ = some (.slice A2_0 l2_0.length c2_0) := (blk_cell BK204.out 0).trans rfl; have hfz48_0 := blk_frozen BK204.out 0) | (go_at_call 12; (with_reducible refine (graph_Within.calls a0 _ _ l1 _ _ l2_0 _ _ l3 (Int.tmod (wrap64 (a4)) (l1.length : Int)) a5 t215 t218 t219 t220 _ ?side1 ?side2 ?side3 ?side4 ?side5 ?side6 A43.out).mono ?_); (case side1 => repeat (first | exact (Kd.C_below HR1.out HB.out) | (with_reducible refine Kd.C_alloc ?_ _) | (with_reducible refine Kd.C_drewN ?_ _) | (with_reducible refine Kd.C_drew ?_))); (case side2 => exact HC1.out); (case side3 => repeat (first | exact (Kd.C_below HR2_0.out HB.out) | (with_reducible refine Kd.C_alloc ?_ _) | (with_reducible refine Kd.C_drewN ?_ _) | (with_reducible refine Kd.C_drew ?_))); (case side4 => exact HC2_0.out); (case side5 => repeat (first | exact (Kd.C_below HR3.out HB.out) | (with_reducible refine Kd.C_alloc ?_ _) | (with_reducible refine Kd.C_drewN ?_ _) | (with_reducible refine Kd.C_drew ?_))); (case side6 => exact HC3.out); rintro e w49 ⟨v216, rfl, ho0, hb⟩; have n0_ := Aside0.mk (Kd.R_elder' (by (with_reducible repeat (first | apply Kd.R_alloc | apply Kd.R_drewN | apply Kd.R_drew)); exact HO213.out) (Kd.R_base ho0) hb); have n1_ := Aside0.mk (Kd.R_lower (Kd.R_new' ho0 (Kd.R_lt (by (with_reducible repeat (first | apply Kd.R_alloc | apply Kd.R_drewN | apply Kd.R_drew)); exact HO213.out))) (below_size (by repeat (first | (with_reducible first | exact HB.out | apply below_alloc | apply pw_below_drewN | apply below_drew1 | refine below_set ?_ GE204.out) | exact HB.out)))); have n2_ := Aside0.mk (blk_below (g := gb204) (o := .cells #[.slice A2_0 l2_0.length c2_0] 25 (0, 0)) (by (with_reducible repeat (first | refine blk_drewN ?_ _ | refine blk_drew ?_ | refine blk_alloc ?_ _)); exact BK204.out) hb); have n3_ := Aside0.mk (below_step (by repeat (first | (with_reducible first | exact HB.out | apply below_alloc | apply pw_below_drewN | apply below_drew1 | refine below_set ?_ GE204.out) | exact HB.out)) hb); clear HO213; clear BK204; clear HB; have HO213 := n0_; have HO217 := n1_; have BK204 := n2_; have HB := n3_; clear n0_ n1_ n2_ n3_; (try clear hb); (try clear hb2); (try clear hk); (try clear hi); (try clear ho0); have hcz50_0 : w49.cell? ⟨gb204, 0, none⟩ = some (.slice A2_0 l2_0.length c2_0) := (blk_cell BK204.out 0).trans rfl; have hfz50_0 := blk_frozen BK204.out 0) | (go_at_call 13; (with_reducible refine (graph_Nearest.calls a0 _ _ l1 _ _ l2_0 _ _ l3 (Int.tmod (wrap64 (a4)) (l1.length : Int)) (wrap64 (1 + (Int.tmod (wrap64 (a6)) 64))) t221 t224 t225 t226 _ ?side1 ?side2 ?side3 ?side4 ?side5 ?side6 A44.out).mono ?_); (case side1 => repeat (first | exact (Kd.C_below HR1.out HB.out) | (with_reducible refine Kd.C_alloc ?_ _) | (with_reducible refine Kd.C_drewN ?_ _) | (with_reducible refine Kd.C_drew ?_))); (case side2 => exact HC1.out); (case side3 => repeat (first | exact (Kd.C_below HR2_0.out HB.out) | (with_reducible refine Kd.C_alloc ?_ _) | (with_reducible refine Kd.C_drewN ?_ _) | (with_reducible refine Kd.C_drew ?_))); (case side4 => exact HC2_0.out); (case side5 => repeat (first | exact (Kd.C_below HR3.out HB.out) | (with_reducible refine Kd.C_alloc ?_ _) | (with_reducible refine Kd.C_drewN ?_ _) | (with_reducible refine Kd.C_drew ?_))); (case side6 => exact HC3.out); rintro e w51 ⟨v222, rfl, ho0, hb⟩; have n0_ := Aside0.mk (Kd.R_elder' (by (with_reducible repeat (first | apply Kd.R_alloc | apply Kd.R_drewN | apply Kd.R_drew)); exact HO213.out) (Kd.R_base ho0) hb); have n1_ := Aside0.mk (Kd.R_elder' (by (with_reducible repeat (first | apply Kd.R_alloc | apply Kd.R_drewN | apply Kd.R_drew)); exact HO217.out) (Kd.R_base ho0) hb); have n2_ := Aside0.mk (Kd.R_lower (Kd.R_new' (Kd.R_new' ho0 (Kd.R_lt (by (with_reducible repeat (first | apply Kd.R_alloc | apply Kd.R_drewN | apply Kd.R_drew)); exact HO213.out))) (Kd.R_lt (by (with_reducible repeat (first | apply Kd.R_alloc | apply Kd.R_drewN | apply Kd.R_drew)); exact HO217.out))) (below_size (by repeat (first | (with_reducible first | exact HB.out | apply below_alloc | apply pw_below_drewN | apply below_drew1 | refine below_set ?_ GE204.out) | exact HB.out)))); have n3_ := Aside0.mk (blk_below (g := gb204) (o := .cells #[.slice A2_0 l2_0.length c2_0] 25 (0, 0)) (by (with_reducible repeat (first | refine blk_drewN ?_ _ | refine blk_drew ?_ | refine blk_alloc ?_ _)); exact BK204.out) hb); have n4_ := Aside0.mk (below_step (by repeat (first | (with_reducible first | exact HB.out | apply below_alloc | apply pw_below_drewN | apply below_drew1 | refine below_set ?_ GE204.out) | exact HB.out)) hb); clear HO213; clear HO217; clear BK204; clear HB; have HO213 := n0_; have HO217 := n1_; have HO223 := n2_; have BK204 := n3_; have HB := n4_; clear n0_ n1_ n2_ n3_ n4_; (try clear hb); (try clear hb2); (try clear hk); (try clear hi); (try clear ho0))); go_upto_region 7 with (first | (go_at_call 11; (with_reducible refine (graph_Walk.calls a0 _ _ l1 _ _ l2_0 _ _ l3 (Int.tmod (wrap64 (a4)) (l1.length : Int)) t211 t214 _ ?side1 ?side2 ?side3 ?side4 ?side5 ?side6 A42.out).mono ?_); (case side1 => repeat (first | exact (Kd.C_below HR1.out HB.out) | (with_reducible refine Kd.C_alloc ?_ _) | (with_reducible refine Kd.C_drewN ?_ _) | (with_reducible refine Kd.C_drew ?_))); (case side2 => exact HC1.out); (case side3 => repeat (first | exact (Kd.C_below HR2_0.out HB.out) | (with_reducible refine Kd.C_alloc ?_ _) | (with_reducible refine Kd.C_drewN ?_ _) | (with_reducible refine Kd.C_drew ?_))); (case side4 => exact HC2_0.out); (case side5 => repeat (first | exact (Kd.C_below HR3.out HB.out) | (with_reducible refine Kd.C_alloc ?_ _) | (with_reducible refine Kd.C_drewN ?_ _) | (with_reducible refine Kd.C_drew ?_))); (case side6 => exact HC3.out); rintro e w47 ⟨v212, rfl, ho0, hb⟩; have n0_ := Aside0.mk (Kd.R_lower ho0 (below_size (by repeat (first | (with_reducible first | exact HB.out | apply below_alloc | apply pw_below_drewN | apply below_drew1 | refine below_set ?_ GE204.out) | exact HB.out)))); have n1_ := Aside0.mk (blk_below (g := gb204) (o := .cells #[.slice A2_0 l2_0.length c2_0] 25 (0, 0)) (by (with_reducible repeat (first | refine blk_drewN ?_ _ | refine blk_drew ?_ | refine blk_alloc ?_ _)); exact BK204.out) hb); have n2_ := Aside0.mk (below_step (by repeat (first | (with_reducible first | exact HB.out | apply below_alloc | apply pw_below_drewN | apply below_drew1 | refine below_set ?_ GE204.out) | exact HB.out)) hb); clear BK204; clear HB; have HO213 := n0_; have BK204 := n1_; have HB := n2_; clear n0_ n1_ n2_; (try clear hb); (try clear hb2); (try clear hk); (try clear hi); (try clear ho0); have hcz48_0 : w47.cell? ⟨gb204, 0, none⟩ = some (.slice A2_0 l2_0.length c2_0) := (blk_cell BK204.out 0).trans rfl; have hfz48_0 := blk_frozen BK204.out 0) | (go_at_call 12; (with_reducible refine (graph_Within.calls a0 _ _ l1 _ _ l2_0 _ _ l3 (Int.tmod (wrap64 (a4)) (l1.length : Int)) a5 t215 t218 t219 t220 _ ?side1 ?side2 ?side3 ?side4 ?side5 ?side6 A43.out).mono ?_); (case side1 => repeat (first | exact (Kd.C_below HR1.out HB.out) | (with_reducible refine Kd.C_alloc ?_ _) | (with_reducible refine Kd.C_drewN ?_ _) | (with_reducible refine Kd.C_drew ?_))); (case side2 => exact HC1.out); (case side3 => repeat (first | exact (Kd.C_below HR2_0.out HB.out) | (with_reducible refine Kd.C_alloc ?_ _) | (with_reducible refine Kd.C_drewN ?_ _) | (with_reducible refine Kd.C_drew ?_))); (case side4 => exact HC2_0.out); (case side5 => repeat (first | exact (Kd.C_below HR3.out HB.out) | (with_reducible refine Kd.C_alloc ?_ _) | (with_reducible refine Kd.C_drewN ?_ _) | (with_reducible refine Kd.C_drew ?_))); (case side6 => exact HC3.out); rintro e w49 ⟨v216, rfl, ho0, hb⟩; have n0_ := Aside0.mk (Kd.R_elder' (by (with_reducible repeat (first | apply Kd.R_alloc | apply Kd.R_drewN | apply Kd.R_drew)); exact HO213.out) (Kd.R_base ho0) hb); have n1_ := Aside0.mk (Kd.R_lower (Kd.R_new' ho0 (Kd.R_lt (by (with_reducible repeat (first | apply Kd.R_alloc | apply Kd.R_drewN | apply Kd.R_drew)); exact HO213.out))) (below_size (by repeat (first | (with_reducible first | exact HB.out | apply below_alloc | apply pw_below_drewN | apply below_drew1 | refine below_set ?_ GE204.out) | exact HB.out)))); have n2_ := Aside0.mk (blk_below (g := gb204) (o := .cells #[.slice A2_0 l2_0.length c2_0] 25 (0, 0)) (by (with_reducible repeat (first | refine blk_drewN ?_ _ | refine blk_drew ?_ | refine blk_alloc ?_ _)); exact BK204.out) hb); have n3_ := Aside0.mk (below_step (by repeat (first | (with_reducible first | exact HB.out | apply below_alloc | apply pw_below_drewN | apply below_drew1 | refine below_set ?_ GE204.out) | exact HB.out)) hb); clear HO213; clear BK204; clear HB; have HO213 := n0_; have HO217 := n1_; have BK204 := n2_; have HB := n3_; clear n0_ n1_ n2_ n3_; (try clear hb); (try clear hb2); (try clear hk); (try clear hi); (try clear ho0); have hcz50_0 : w49.cell? ⟨gb204, 0, none⟩ = some (.slice A2_0 l2_0.length c2_0) := (blk_cell BK204.out 0).trans rfl; have hfz50_0 := blk_frozen BK204.out 0) | (go_at_call 13; (with_reducible refine (graph_Nearest.calls a0 _ _ l1 _ _ l2_0 _ _ l3 (Int.tmod (wrap64 (a4)) (l1.length : Int)) (wrap64 (1 + (Int.tmod (wrap64 (a6)) 64))) t221 t224 t225 t226 _ ?side1 ?side2 ?side3 ?side4 ?side5 ?side6 A44.out).mono ?_); (case side1 => repeat (first | exact (Kd.C_below HR1.out HB.out) | (with_reducible refine Kd.C_alloc ?_ _) | (with_reducible refine Kd.C_drewN ?_ _) | (with_reducible refine Kd.C_drew ?_))); (case side2 => exact HC1.out); (case side3 => repeat (first | exact (Kd.C_below HR2_0.out HB.out) | (with_reducible refine Kd.C_alloc ?_ _) | (with_reducible refine Kd.C_drewN ?_ _) | (with_reducible refine Kd.C_drew ?_))); (case side4 => exact HC2_0.out); (case side5 => repeat (first | exact (Kd.C_below HR3.out HB.out) | (with_reducible refine Kd.C_alloc ?_ _) | (with_reducible refine Kd.C_drewN ?_ _) | (with_reducible refine Kd.C_drew ?_))); (case side6 => exact HC3.out); rintro e w51 ⟨v222, rfl, ho0, hb⟩; have n0_ := Aside0.mk (Kd.R_elder' (by (with_reducible repeat (first | apply Kd.R_alloc | apply Kd.R_drewN | apply Kd.R_drew)); exact HO213.out) (Kd.R_base ho0) hb); have n1_ := Aside0.mk (Kd.R_elder' (by (with_reducible repeat (first | apply Kd.R_alloc | apply Kd.R_drewN | apply Kd.R_drew)); exact HO217.out) (Kd.R_base ho0) hb); have n2_ := Aside0.mk (Kd.R_lower (Kd.R_new' (Kd.R_new' ho0 (Kd.R_lt (by (with_reducible repeat (first | apply Kd.R_alloc | apply Kd.R_drewN | apply Kd.R_drew)); exact HO213.out))) (Kd.R_lt (by (with_reducible repeat (first | apply Kd.R_alloc | apply Kd.R_drewN | apply Kd.R_drew)); exact HO217.out))) (below_size (by repeat (first | (with_reducible first | exact HB.out | apply below_alloc | apply pw_below_drewN | apply below_drew1 | refine below_set ?_ GE204.out) | exact HB.out)))); have n3_ := Aside0.mk (blk_below (g := gb204) (o := .cells #[.slice A2_0 l2_0.length c2_0] 25 (0, 0)) (by (with_reducible repeat (first | refine blk_drewN ?_ _ | refine blk_drew ?_ | refine blk_alloc ?_ _)); exact BK204.out) hb); have n4_ := Aside0.mk (below_step (by repeat (first | (with_reducible first | exact HB.out | apply below_alloc | apply pw_below_drewN | apply below_drew1 | refine below_set ?_ GE204.out) | exact HB.out)) hb); clear HO213; clear HO217; clear BK204; clear HB; have HO213 := n0_; have HO217 := n1_; have HO223 := n2_; have BK204 := n3_; have HB := n4_; clear n0_ n1_ n2_ n3_ n4_; (try clear hb); (try clear hb2); (try clear hk); (try clear hi); (try clear ho0))))
          (try simp only [Act.put, List.setIfInBounds_toArray, List.set_cons_zero, List.set_cons_succ])
          go_cut [144] (fun v144 wc => ∃ (kq : Nat) (x144_44 : Bool), v144 = .bool x144_44 ∧ Aside0 (lawWD.j1 kq a0 l1 l3 t211 t218 x144_44 l2_0 = some r) ∧ Aside0 (kq ≤ kj7) ∧ Aside0 (Kd.R (Kd.int .i64) 3 wc w.heap.size (fun _ => True) v212 t211) ∧ Aside0 (wc.heap[gb204]? = some (.cells #[(.slice A2_0 l2_0.length c2_0)] 25 (0, 0))) ∧ Aside0 (Below w.heap.size w wc))
          case first => as_aux_lemma =>
            have H := HC45.out
            clear HC45
            by_cases c52 : t214 = 0
            · rw [if_pos c52] at H
              have c52b0 : (t214 == 0) = true := beq_iff_eq.mpr c52
              have c52b1 : (t214 != 0) = false := bne_eq_false_iff_eq.mpr c52
              clear c52
              (first | rw [c52b0] | (simp only [i64_w, i32_w]; rw [c52b0]) | skip)
              by_cases c53 : t220 = 0
              · rw [if_pos c53] at H
                have c53b0 : (t220 == 0) = true := beq_iff_eq.mpr c53
                have c53b1 : (t220 != 0) = false := bne_eq_false_iff_eq.mpr c53
                clear c53
                by_cases c54 : t226 = 0
                · rw [if_pos c54] at H
                  have c54b0 : (t226 == 0) = true := beq_iff_eq.mpr c54
                  have c54b1 : (t226 != 0) = false := bne_eq_false_iff_eq.mpr c54
                  clear c54
                  by_cases c55 : (t211.length : Int) = 0
                  · rw [if_pos c55] at H
                    have c55b0 : ((t211.length : Int) == 0) = true := beq_iff_eq.mpr c55
                    have c55b1 : ((t211.length : Int) != 0) = false := bne_eq_false_iff_eq.mpr c55
                    clear c55
                    have H' := Aside0.mk H
                    clear H
                    obtain ⟨Ao56, co56, eo56⟩ := Kd.R_slice HO213.out
                    subst eo56
                    go_wp2
                    repeat (go_quiet (fail); try go_wp2)
                    go_meet
                    case rel => exact ⟨_, (true), (by first | rfl | (simp; done) | (simp [*]; done)), H', ⟨by have := HJ7.out; first | omega | exact Nat.le_refl _⟩, ⟨by (with_reducible repeat (first | apply Kd.R_alloc | apply Kd.R_drewN | apply Kd.R_drew)); exact Kd.R_mono HO213.out (fun _ hk => trivial)⟩, ⟨by (with_reducible repeat (first | refine blk_drewN ?_ _ | refine blk_drew ?_ | refine blk_alloc ?_ _)); exact BK204.out⟩, ⟨by repeat (first | (with_reducible first | exact HB.out | apply below_alloc | apply pw_below_drewN | apply below_drew1 | refine below_set ?_ GE204.out) | exact HB.out)⟩⟩
                  · rw [if_neg c55] at H
                    have c55b0 : ((t211.length : Int) == 0) = false := beq_eq_false_iff_ne.mpr c55
                    have c55b1 : ((t211.length : Int) != 0) = true := bne_iff_ne.mpr c55
                    have c55b2 : ¬ (t211 = []) := fun h_ => c55 (by rw [h_]; rfl)
                    by_cases c57 : (t211.length : Int) > (l1.length : Int)
                    · rw [if_pos c57] at H
                      have c57b0 : decide ((l1.length : Int) < (t211.length : Int)) = true := decide_eq_true c57
                      have c57b1 : decide (l1.length < t211.length) = true := decide_eq_true (Int.ofNat_lt.mp c57)
                      clear c57
                      have H' := Aside0.mk H
                      clear H
                      obtain ⟨Ao58, co58, eo58⟩ := Kd.R_slice HO213.out
                      subst eo58
                      go_wp2
                      repeat (go_quiet (fail); try go_wp2)
                      go_meet
                      case rel => exact ⟨_, (true), (by first | rfl | (simp; done) | (simp [*]; done)), H', ⟨by have := HJ7.out; first | omega | exact Nat.le_refl _⟩, ⟨by (with_reducible repeat (first | apply Kd.R_alloc | apply Kd.R_drewN | apply Kd.R_drew)); exact Kd.R_mono HO213.out (fun _ hk => trivial)⟩, ⟨by (with_reducible repeat (first | refine blk_drewN ?_ _ | refine blk_drew ?_ | refine blk_alloc ?_ _)); exact BK204.out⟩, ⟨by repeat (first | (with_reducible first | exact HB.out | apply below_alloc | apply pw_below_drewN | apply below_drew1 | refine below_set ?_ GE204.out) | exact HB.out)⟩⟩
                    · rw [if_neg c57] at H
                      have c57b0 : decide ((l1.length : Int) < (t211.length : Int)) = false := decide_eq_false c57
                      have c57b1 : decide (l1.length < t211.length) = false := decide_eq_false (fun h => c57 (Int.ofNat_lt.mpr h))
                      clear c57
                      by_cases c59 : 0 < (t211.length : Int)
                      · rw [if_pos c59] at H
                        have c59b0 : decide (0 < (t211.length : Int)) = true := decide_eq_true c59
                        have c59b1 : decide (0 < t211.length) = true := decide_eq_true (by omega)
                        clear c59
                        by_cases c60 : (rd t211 0) = (Int.tmod (wrap64 (a4)) (l1.length : Int))
                        · rw [if_pos c60] at H
                          have c60b0 : ((rd t211 0) == (Int.tmod (wrap64 (a4)) (l1.length : Int))) = true := beq_iff_eq.mpr c60
                          have c60b1 : ((rd t211 0) != (Int.tmod (wrap64 (a4)) (l1.length : Int))) = false := bne_eq_false_iff_eq.mpr c60
                          clear c60
                          obtain ⟨ji61, hji61⟩ : ∃ j_ : Int, (wrap64 ((t211.length : Int) - 1)) = j_ := ⟨_, rfl⟩
                          replace H : (if 0 ≤ (ji61) then (if (ji61) < (t211.length : Int) then (lawWD.j1 kj7 a0 l1 l3 t211 t218 ((rd t211 (ji61)) != t224) l2_0) else (none)) else (none)) = some r := by first | (rw [hji61] at H; exact H) | (simp only [hji61] at H ⊢; exact H)
                          have hji61w : (IntKind.i64.wrap ((t211.length : Int) - 1)) = ji61 := (i64_w _).trans hji61
                          by_cases c62 : 0 ≤ (ji61)
                          · rw [if_pos c62] at H
                            have c62b0 : decide (0 ≤ (ji61)) = true := decide_eq_true c62
                            clear c62
                            by_cases c63 : (ji61) < (t211.length : Int)
                            · rw [if_pos c63] at H
                              have c63b0 : decide ((ji61) < (t211.length : Int)) = true := decide_eq_true c63
                              clear c63
                              have H' := Aside0.mk H
                              clear H
                              obtain ⟨Ao64, co64, eo64⟩ := Kd.R_slice HO213.out
                              subst eo64
                              have p227 : 0 ≤ (0 : Int) := (by omega)
                              have q227 : 0 < (t211.length : Int) := of_decide_eq_true (by first | (with_reducible assumption) | assumption)
                              obtain ⟨ad227, e227, hx227_0⟩ := Kd.at_int (Kd.R_reads' HO213.out).2.2 0 p227 q227
                              cases e227
                              have qi227 : (0 < t211.length) = True := eq_true (by omega)
                              (try rw [show ((0 : Int)).toNat = 0 from rfl] at hx227_0)
                              (try rw [Addr.add_zero'] at hx227_0)
                              replace p227 := eq_true p227
                              replace q227 := eq_true q227
                              have p228 : 0 ≤ ((ji61) : Int) := of_decide_eq_true (by first | (with_reducible assumption) | assumption)
                              have q228 : (ji61) < (t211.length : Int) := of_decide_eq_true (by first | (with_reducible assumption) | assumption)
                              obtain ⟨ad228, e228, hx228_0⟩ := Kd.at_int (Kd.R_reads' HO213.out).2.2 (ji61) p228 q228
                              obtain rfl : ad227 = ad228 := (by injection e228)
                              replace p228 := eq_true p228
                              replace q228 := eq_true q228
                              go_wp2
                              repeat (go_quiet (fail); try go_wp2)
                              go_meet
                              case rel => exact ⟨_, (((rd t211 (ji61)) != t224)), (by first | rfl | (simp; done) | (simp only [← hji61] <;> (first | rfl | simp)) | (simp [*]; done)), H', ⟨by have := HJ7.out; first | omega | exact Nat.le_refl _⟩, ⟨by (with_reducible repeat (first | apply Kd.R_alloc | apply Kd.R_drewN | apply Kd.R_drew)); exact Kd.R_mono HO213.out (fun _ hk => trivial)⟩, ⟨by (with_reducible repeat (first | refine blk_drewN ?_ _ | refine blk_drew ?_ | refine blk_alloc ?_ _)); exact BK204.out⟩, ⟨by repeat (first | (with_reducible first | exact HB.out | apply below_alloc | apply pw_below_drewN | apply below_drew1 | refine below_set ?_ GE204.out) | exact HB.out)⟩⟩
                            · rw [if_neg c63] at H
                              exact absurd H (by simp)
                          · rw [if_neg c62] at H
                            exact absurd H (by simp)
                        · rw [if_neg c60] at H
                          have c60b0 : ((rd t211 0) == (Int.tmod (wrap64 (a4)) (l1.length : Int))) = false := beq_eq_false_iff_ne.mpr c60
                          have c60b1 : ((rd t211 0) != (Int.tmod (wrap64 (a4)) (l1.length : Int))) = true := bne_iff_ne.mpr c60
                          have H' := Aside0.mk H
                          clear H
                          obtain ⟨Ao65, co65, eo65⟩ := Kd.R_slice HO213.out
                          subst eo65
                          have p227 : 0 ≤ (0 : Int) := (by omega)
                          have q227 : 0 < (t211.length : Int) := of_decide_eq_true (by first | (with_reducible assumption) | assumption)
                          obtain ⟨ad227, e227, hx227_0⟩ := Kd.at_int (Kd.R_reads' HO213.out).2.2 0 p227 q227
                          cases e227
                          have qi227 : (0 < t211.length) = True := eq_true (by omega)
                          (try rw [show ((0 : Int)).toNat = 0 from rfl] at hx227_0)
                          (try rw [Addr.add_zero'] at hx227_0)
                          replace p227 := eq_true p227
                          replace q227 := eq_true q227
                          go_wp2
                          repeat (go_quiet (fail); try go_wp2)
                          go_meet
                          case rel => exact ⟨_, (true), (by first | rfl | (simp; done) | (simp [*]; done)), H', ⟨by have := HJ7.out; first | omega | exact Nat.le_refl _⟩, ⟨by (with_reducible repeat (first | apply Kd.R_alloc | apply Kd.R_drewN | apply Kd.R_drew)); exact Kd.R_mono HO213.out (fun _ hk => trivial)⟩, ⟨by (with_reducible repeat (first | refine blk_drewN ?_ _ | refine blk_drew ?_ | refine blk_alloc ?_ _)); exact BK204.out⟩, ⟨by repeat (first | (with_reducible first | exact HB.out | apply below_alloc | apply pw_below_drewN | apply below_drew1 | refine below_set ?_ GE204.out) | exact HB.out)⟩⟩
                      · rw [if_neg c59] at H
                        exact absurd H (by simp)
                · rw [if_neg c54] at H
                  have c54b0 : (t226 == 0) = false := beq_eq_false_iff_ne.mpr c54
                  have c54b1 : (t226 != 0) = true := bne_iff_ne.mpr c54
                  have H' := Aside0.mk H
                  clear H
                  go_wp2
                  repeat (go_quiet (fail); try go_wp2)
                  go_meet
                  case rel => exact ⟨_, (true), (by first | rfl | (simp; done) | (simp [*]; done)), H', ⟨by have := HJ7.out; first | omega | exact Nat.le_refl _⟩, ⟨by (with_reducible repeat (first | apply Kd.R_alloc | apply Kd.R_drewN | apply Kd.R_drew)); exact Kd.R_mono HO213.out (fun _ hk => trivial)⟩, ⟨by (with_reducible repeat (first | refine blk_drewN ?_ _ | refine blk_drew ?_ | refine blk_alloc ?_ _)); exact BK204.out⟩, ⟨by repeat (first | (with_reducible first | exact HB.out | apply below_alloc | apply pw_below_drewN | apply below_drew1 | refine below_set ?_ GE204.out) | exact HB.out)⟩⟩
              · rw [if_neg c53] at H
                have c53b0 : (t220 == 0) = false := beq_eq_false_iff_ne.mpr c53
                have c53b1 : (t220 != 0) = true := bne_iff_ne.mpr c53
                have H' := Aside0.mk H
                clear H
                go_wp2
                repeat (go_quiet (fail); try go_wp2)
                go_meet
                case rel => exact ⟨_, (true), (by first | rfl | (simp; done) | (simp [*]; done)), H', ⟨by have := HJ7.out; first | omega | exact Nat.le_refl _⟩, ⟨by (with_reducible repeat (first | apply Kd.R_alloc | apply Kd.R_drewN | apply Kd.R_drew)); exact Kd.R_mono HO213.out (fun _ hk => trivial)⟩, ⟨by (with_reducible repeat (first | refine blk_drewN ?_ _ | refine blk_drew ?_ | refine blk_alloc ?_ _)); exact BK204.out⟩, ⟨by repeat (first | (with_reducible first | exact HB.out | apply below_alloc | apply pw_below_drewN | apply below_drew1 | refine below_set ?_ GE204.out) | exact HB.out)⟩⟩
            · rw [if_neg c52] at H
              have c52b0 : (t214 == 0) = false := beq_eq_false_iff_ne.mpr c52
              have c52b1 : (t214 != 0) = true := bne_iff_ne.mpr c52
              (first | rw [c52b0] | (simp only [i64_w, i32_w]; rw [c52b0]) | skip)
              have H' := Aside0.mk H
              clear H
              go_wp2
              repeat (go_quiet (fail); try go_wp2)
              go_meet
              case rel => exact ⟨_, (true), (by first | rfl | (simp; done) | (simp [*]; done)), H', ⟨by have := HJ7.out; first | omega | exact Nat.le_refl _⟩, ⟨by (with_reducible repeat (first | apply Kd.R_alloc | apply Kd.R_drewN | apply Kd.R_drew)); exact Kd.R_mono HO213.out (fun _ hk => trivial)⟩, ⟨by (with_reducible repeat (first | refine blk_drewN ?_ _ | refine blk_drew ?_ | refine blk_alloc ?_ _)); exact BK204.out⟩, ⟨by repeat (first | (with_reducible first | exact HB.out | apply below_alloc | apply pw_below_drewN | apply below_drew1 | refine below_set ?_ GE204.out) | exact HB.out)⟩⟩
          case rest => as_aux_lemma =>
            clear HC45
            (try clear c1); (try clear c2); (try clear p2); (try clear q2); (try clear hx2); (try clear qi2); (try clear c3); (try clear c4); (try clear c5); (try clear c6); (try clear p6); (try clear c11); (try clear c13); (try clear c15); (try clear c16); (try clear c16b0); (try clear c16b1); (try clear c18); (try clear c19); (try clear c19b0); (try clear c20); (try clear p20); (try clear q20); (try clear hx20); (try clear qi20); (try clear p22); (try clear q22); (try clear hx22); (try clear qi22); (try clear c38); (try clear c41); (try clear c41b0); (try clear c41b1); (try clear c41b2); (try clear c52); (try clear c52b0); (try clear c52b1); (try clear c53); (try clear c53b0); (try clear c53b1); (try clear c54); (try clear c54b0); (try clear c54b1); (try clear c55); (try clear c55b0); (try clear c55b1); (try clear c55b2); (try clear c57); (try clear c57b0); (try clear c57b1); (try clear c59); (try clear c59b0); (try clear c59b1); (try clear c60); (try clear c60b0); (try clear c60b1); (try clear c62); (try clear c62b0); (try clear c63); (try clear c63b0); (try clear p64); (try clear hcz20_0); (try clear hcz22_0); (try clear hcz24_0); (try clear hcz26_0); (try clear hcz28_0); (try clear hcz30_0); (try clear hcz32_0); (try clear hcz34_0); (try clear hcz36_0); (try clear hcz46_0); (try clear hcz48_0); (try clear hcz50_0); (try clear hfz20_0); (try clear hfz22_0); (try clear hfz24_0); (try clear hfz26_0); (try clear hfz28_0); (try clear hfz30_0); (try clear hfz32_0); (try clear hfz34_0); (try clear hfz36_0); (try clear hfz46_0); (try clear hfz48_0); (try clear hfz50_0); (try clear hx208_0); (try clear hx227_0); (try clear hx228_0); (try clear p2); (try clear p20); (try clear p208); (try clear p227); (try clear p228); (try clear q2); (try clear q20); (try clear q208); (try clear q227); (try clear q228)
            obtain ⟨kq, x144_44, rfl, HA, HJ44, HO_16, BK204, HB⟩ := hcut
            cases kq with
            | zero => exact absurd HA.out (by simp [lawWD.j1])
            | succ kj44 =>
              have H := HA.out
              clear HA
              simp only [lawWD.j1] at H
              by_cases c66 : x144_44 = true
              · subst c66
                have H1 : (some false) = some r := by rw [if_pos rfl] at H; exact H
                clear H
                have H := H1
                clear H1
                obtain rfl := Option.some.inj H
                go_wp2
                repeat (go_quiet (fail); try go_wp2)
                go_ret
                exact ⟨by first | rfl | (simp [errW_none, errW_some] <;> rfl) | (simp [*, errW_none, errW_some] <;> rfl), by repeat (first | (with_reducible first | exact HB.out | apply below_alloc | apply pw_below_drewN | apply below_drew1 | refine below_set ?_ GE204.out) | exact HB.out)⟩
              · replace c66 := Bool.eq_false_iff.mpr c66
                subst c66
                have H1 : (lawWD.l0 kj44 a0 l1 l3 t211 t218 false 0 l2_0) = some r := by rw [if_neg (show ¬ (false = true) by decide)] at H; exact H
                clear H
                have H := H1
                clear H1
                have H' := Aside0.mk H
                clear H
                go_wp2
                repeat (go_quiet (fail); try go_wp2)
                go_loopg [26, 27] kj44 (fun kq v26 v27 w' => ∃ (x26_3 : Bool) (x27_3 : Int), v26 = .bool x26_3 ∧ v27 = .int .i64 x27_3 ∧ Aside0 (lawWD.l0 kq a0 l1 l3 t211 t218 x26_3 x27_3 l2_0 = some r) ∧ Aside0 (kq ≤ kj44) ∧ Aside0 (Kd.R (Kd.int .i64) 3 w' w.heap.size (fun _ => True) v212 t211) ∧ Aside0 (w'.heap[gb204]? = some (.cells #[(.slice A2_0 l2_0.length c2_0)] 25 (0, 0))) ∧ Aside0 (Below w.heap.size w w'))
                case atStart => exact ⟨(false), (0), (by first | rfl | (simp; done) | (simp [*]; done)), (by first | rfl | (simp; done) | (simp [*]; done)), H', ⟨Nat.le_refl _⟩, ⟨by (with_reducible repeat (first | apply Kd.R_alloc | apply Kd.R_drewN | apply Kd.R_drew)); exact HO_16.out⟩, ⟨by (with_reducible repeat (first | refine blk_drewN ?_ _ | refine blk_drew ?_ | refine blk_alloc ?_ _)); exact BK204.out⟩, ⟨by repeat (first | (with_reducible first | exact HB.out | apply below_alloc | apply pw_below_drewN | apply below_drew1 | refine below_set ?_ GE204.out) | exact HB.out)⟩⟩
                case round =>
                  clear H'
                  (try clear c1); (try clear c2); (try clear p2); (try clear q2); (try clear hx2); (try clear qi2); (try clear c3); (try clear c4); (try clear c5); (try clear c6); (try clear p6); (try clear c11); (try clear c13); (try clear c15); (try clear c16); (try clear c16b0); (try clear c16b1); (try clear c18); (try clear c19); (try clear c19b0); (try clear c20); (try clear p20); (try clear q20); (try clear hx20); (try clear qi20); (try clear p22); (try clear q22); (try clear hx22); (try clear qi22); (try clear c38); (try clear c41); (try clear c41b0); (try clear c41b1); (try clear c41b2); (try clear c52); (try clear c52b0); (try clear c52b1); (try clear c53); (try clear c53b0); (try clear c53b1); (try clear c54); (try clear c54b0); (try clear c54b1); (try clear c55); (try clear c55b0); (try clear c55b1); (try clear c55b2); (try clear c57); (try clear c57b0); (try clear c57b1); (try clear c59); (try clear c59b0); (try clear c59b1); (try clear c60); (try clear c60b0); (try clear c60b1); (try clear c62); (try clear c62b0); (try clear c63); (try clear c63b0); (try clear p64); (try clear c66); (try clear hcz20_0); (try clear hcz22_0); (try clear hcz24_0); (try clear hcz26_0); (try clear hcz28_0); (try clear hcz30_0); (try clear hcz32_0); (try clear hcz34_0); (try clear hcz36_0); (try clear hcz46_0); (try clear hcz48_0); (try clear hcz50_0); (try clear hfz20_0); (try clear hfz22_0); (try clear hfz24_0); (try clear hfz26_0); (try clear hfz28_0); (try clear hfz30_0); (try clear hfz32_0); (try clear hfz34_0); (try clear hfz36_0); (try clear hfz46_0); (try clear hfz48_0); (try clear hfz50_0); (try clear hx208_0); (try clear hx227_0); (try clear hx228_0); (try clear p2); (try clear p20); (try clear p208); (try clear p22); (try clear p227); (try clear p228); (try clear p6); (try clear p64); (try clear q2); (try clear q20); (try clear q208); (try clear q22); (try clear q227); (try clear q228)
                  obtain ⟨x26_3, x27_3, rfl, rfl, HA, HK3, HO_16, BK204, HB⟩ := hrel
                  cases gk with
                  | zero => exact absurd HA.out (by simp [lawWD.l0])
                  | succ k3 =>
                    have H := HA.out
                    clear HA
                    simp only [lawWD.l0] at H
                    by_cases c67 : x27_3 < (t211.length : Int)
                    · rw [if_pos c67] at H
                      have c67b0 : decide (x27_3 < (t211.length : Int)) = true := decide_eq_true c67
                      clear c67
                      have HC68 := Aside0.mk H
                      clear H
                      obtain ⟨Ao69, co69, eo69⟩ := Kd.R_slice HO_16.out
                      subst eo69
                      go_upto_region 13 with (fail)
                      repeat (go_quiet (fail); go_upto_region 13 with (fail))
                      go_cut [164] (fun v164 wc => ∃ (kq : Nat) (x164_67 : Bool), v164 = .bool x164_67 ∧ Aside0 (lawWD.j3 kq a0 l1 l3 t211 t218 x26_3 x27_3 x164_67 l2_0 = some r) ∧ Aside0 (kq ≤ k3) ∧ Aside0 (Kd.R (Kd.int .i64) 3 wc w.heap.size (fun _ => True) (.slice Ao69 t211.length co69) t211) ∧ Aside0 (wc.heap[gb204]? = some (.cells #[(.slice A2_0 l2_0.length c2_0)] 25 (0, 0))) ∧ Aside0 (Below w.heap.size w wc))
                      case first => as_aux_lemma =>
                        have H := HC68.out
                        clear HC68
                        by_cases c70 : 0 ≤ x27_3
                        · rw [if_pos c70] at H
                          have c70b0 : decide (0 ≤ x27_3) = true := decide_eq_true c70
                          clear c70
                          (first | rw [c70b0] | (simp only [i64_w, i32_w]; rw [c70b0]) | skip)
                          by_cases c71 : (rd t211 x27_3) < 0
                          · rw [if_pos c71] at H
                            have c71b0 : decide ((rd t211 x27_3) < 0) = true := decide_eq_true c71
                            clear c71
                            have H' := Aside0.mk H
                            clear H
                            have p230 : 0 ≤ (x27_3 : Int) := of_decide_eq_true (by first | (with_reducible assumption) | assumption)
                            have q230 : x27_3 < (t211.length : Int) := of_decide_eq_true (by first | (with_reducible assumption) | assumption)
                            obtain ⟨ad230, e230, hx230_0⟩ := Kd.at_int (Kd.R_reads' HO_16.out).2.2 x27_3 p230 q230
                            cases e230
                            replace p230 := eq_true p230
                            replace q230 := eq_true q230
                            go_wp2
                            repeat (go_quiet (fail); try go_wp2)
                            go_meet
                            case rel => exact ⟨_, (true), (by first | rfl | (simp; done) | (simp [*]; done)), H', ⟨by have := HJ7.out; have := HJ44.out; have := HK3.out; first | omega | exact Nat.le_refl _⟩, ⟨by (with_reducible repeat (first | apply Kd.R_alloc | apply Kd.R_drewN | apply Kd.R_drew)); exact HO_16.out⟩, ⟨by (with_reducible repeat (first | refine blk_drewN ?_ _ | refine blk_drew ?_ | refine blk_alloc ?_ _)); exact BK204.out⟩, ⟨by repeat (first | (with_reducible first | exact HB.out | apply below_alloc | apply pw_below_drewN | apply below_drew1 | refine below_set ?_ GE204.out) | exact HB.out)⟩⟩
                          · rw [if_neg c71] at H
                            have c71b0 : decide ((rd t211 x27_3) < 0) = false := decide_eq_false c71
                            clear c71
                            have H' := Aside0.mk H
                            clear H
                            have p230 : 0 ≤ (x27_3 : Int) := of_decide_eq_true (by first | (with_reducible assumption) | assumption)
                            have q230 : x27_3 < (t211.length : Int) := of_decide_eq_true (by first | (with_reducible assumption) | assumption)
                            obtain ⟨ad230, e230, hx230_0⟩ := Kd.at_int (Kd.R_reads' HO_16.out).2.2 x27_3 p230 q230
                            cases e230
                            replace p230 := eq_true p230
                            replace q230 := eq_true q230
                            have p231 : 0 ≤ (x27_3 : Int) := of_decide_eq_true (by first | (with_reducible assumption) | assumption)
                            have q231 : x27_3 < (t211.length : Int) := of_decide_eq_true (by first | (with_reducible assumption) | assumption)
                            obtain ⟨ad231, e231, hx231_0⟩ := Kd.at_int (Kd.R_reads' HO_16.out).2.2 x27_3 p231 q231
                            obtain rfl : ad230 = ad231 := (by injection e231)
                            replace p231 := eq_true p231
                            replace q231 := eq_true q231
                            go_wp2
                            repeat (go_quiet (fail); try go_wp2)
                            go_meet
                            case rel => exact ⟨_, (decide ((rd t211 x27_3) ≥ (l1.length : Int))), (by first | rfl | (simp; done) | (simp [*]; done)), H', ⟨by have := HJ7.out; have := HJ44.out; have := HK3.out; first | omega | exact Nat.le_refl _⟩, ⟨by (with_reducible repeat (first | apply Kd.R_alloc | apply Kd.R_drewN | apply Kd.R_drew)); exact HO_16.out⟩, ⟨by (with_reducible repeat (first | refine blk_drewN ?_ _ | refine blk_drew ?_ | refine blk_alloc ?_ _)); exact BK204.out⟩, ⟨by repeat (first | (with_reducible first | exact HB.out | apply below_alloc | apply pw_below_drewN | apply below_drew1 | refine below_set ?_ GE204.out) | exact HB.out)⟩⟩
                        · rw [if_neg c70] at H
                          exact absurd H (by simp)
                      case rest => as_aux_lemma =>
                        clear HC68
                        (try clear c1); (try clear c2); (try clear p2); (try clear q2); (try clear hx2); (try clear qi2); (try clear c3); (try clear c4); (try clear c5); (try clear c6); (try clear p6); (try clear c7); (try clear c11); (try clear c13); (try clear c15); (try clear c16); (try clear c16b0); (try clear c16b1); (try clear c18); (try clear c19); (try clear c19b0); (try clear c20); (try clear p20); (try clear q20); (try clear hx20); (try clear qi20); (try clear p22); (try clear q22); (try clear hx22); (try clear qi22); (try clear p23); (try clear q23); (try clear hx23); (try clear c38); (try clear c41); (try clear c41b0); (try clear c41b1); (try clear c41b2); (try clear c52); (try clear c52b0); (try clear c52b1); (try clear c53); (try clear c53b0); (try clear c53b1); (try clear c54); (try clear c54b0); (try clear c54b1); (try clear c55); (try clear c55b0); (try clear c55b1); (try clear c55b2); (try clear c57); (try clear c57b0); (try clear c57b1); (try clear c59); (try clear c59b0); (try clear c59b1); (try clear c60); (try clear c60b0); (try clear c60b1); (try clear c62); (try clear c62b0); (try clear c63); (try clear c63b0); (try clear p64); (try clear c66); (try clear c67); (try clear c67b0); (try clear c70); (try clear c70b0); (try clear c71); (try clear c71b0); (try clear hcz20_0); (try clear hcz22_0); (try clear hcz24_0); (try clear hcz26_0); (try clear hcz28_0); (try clear hcz30_0); (try clear hcz32_0); (try clear hcz34_0); (try clear hcz36_0); (try clear hcz46_0); (try clear hcz48_0); (try clear hcz50_0); (try clear hfz20_0); (try clear hfz22_0); (try clear hfz24_0); (try clear hfz26_0); (try clear hfz28_0); (try clear hfz30_0); (try clear hfz32_0); (try clear hfz34_0); (try clear hfz36_0); (try clear hfz46_0); (try clear hfz48_0); (try clear hfz50_0); (try clear hx208_0); (try clear hx227_0); (try clear hx228_0); (try clear hx230_0); (try clear hx231_0); (try clear p2); (try clear p20); (try clear p208); (try clear p22); (try clear p227); (try clear p228); (try clear p230); (try clear p231); (try clear p6); (try clear p64); (try clear q2); (try clear q20); (try clear q208); (try clear q22); (try clear q227); (try clear q228); (try clear q230); (try clear q231)
                        obtain ⟨kq, x164_67, rfl, HA, HJ67, HO_16, BK204, HB⟩ := hcut
                        cases kq with
                        | zero => exact absurd HA.out (by simp [lawWD.j3])
                        | succ kj67 =>
                          have H := HA.out
                          clear HA
                          simp only [lawWD.j3] at H
                          by_cases c72 : x164_67 = true
                          · subst c72
                            have H1 : (some false) = some r := by rw [if_pos rfl] at H; exact H
                            clear H
                            have H := H1
                            clear H1
                            obtain rfl := Option.some.inj H
                            go_wp2
                            repeat (go_quiet (fail); try go_wp2)
                            go_ret
                            exact ⟨by first | rfl | (simp [errW_none, errW_some] <;> rfl) | (simp [*, errW_none, errW_some] <;> rfl), by repeat (first | (with_reducible first | exact HB.out | apply below_alloc | apply pw_below_drewN | apply below_drew1 | refine below_set ?_ GE204.out) | exact HB.out)⟩
                          · replace c72 := Bool.eq_false_iff.mpr c72
                            subst c72
                            have H1 : (if x26_3 = true then (lawWD.j4 kj67 a0 l1 l3 t211 t218 true x27_3 l2_0) else (if 0 ≤ x27_3 then (if x27_3 < (t211.length : Int) then (lawWD.j4 kj67 a0 l1 l3 t211 t218 ((rd t211 x27_3) == t218) x27_3 l2_0) else (none)) else (none))) = some r := by rw [if_neg (show ¬ (false = true) by decide)] at H; exact H
                            clear H
                            have H := H1
                            clear H1
                            have HC73 := Aside0.mk H
                            clear H
                            go_upto_region 15 with (fail)
                            repeat (go_quiet (fail); go_upto_region 15 with (fail))
                            go_cut [26] (fun v26 wc => ∃ (kq : Nat) (x26_72 : Bool), v26 = .bool x26_72 ∧ Aside0 (lawWD.j4 kq a0 l1 l3 t211 t218 x26_72 x27_3 l2_0 = some r) ∧ Aside0 (kq ≤ kj67) ∧ Aside0 (Kd.R (Kd.int .i64) 3 wc w.heap.size (fun _ => True) (.slice Ao69 t211.length co69) t211) ∧ Aside0 (wc.heap[gb204]? = some (.cells #[(.slice A2_0 l2_0.length c2_0)] 25 (0, 0))) ∧ Aside0 (Below w.heap.size w wc))
                            case first => as_aux_lemma =>
                              have H := HC73.out
                              clear HC73
                              by_cases c74 : x26_3 = true
                              · subst c74
                                have H1 : (lawWD.j4 kj67 a0 l1 l3 t211 t218 true x27_3 l2_0) = some r := by rw [if_pos rfl] at H; exact H
                                clear H
                                have H := H1
                                clear H1
                                have H' := Aside0.mk H
                                clear H
                                go_wp2
                                repeat (go_quiet (fail); try go_wp2)
                                go_meet
                                case rel => exact ⟨_, (true), (by first | rfl | (simp; done) | (simp [*]; done)), H', ⟨by have := HJ7.out; have := HJ44.out; have := HK3.out; have := HJ67.out; first | omega | exact Nat.le_refl _⟩, ⟨by (with_reducible repeat (first | apply Kd.R_alloc | apply Kd.R_drewN | apply Kd.R_drew)); exact HO_16.out⟩, ⟨by (with_reducible repeat (first | refine blk_drewN ?_ _ | refine blk_drew ?_ | refine blk_alloc ?_ _)); exact BK204.out⟩, ⟨by repeat (first | (with_reducible first | exact HB.out | apply below_alloc | apply pw_below_drewN | apply below_drew1 | refine below_set ?_ GE204.out) | exact HB.out)⟩⟩
                              · replace c74 := Bool.eq_false_iff.mpr c74
                                subst c74
                                have H1 : (if 0 ≤ x27_3 then (if x27_3 < (t211.length : Int) then (lawWD.j4 kj67 a0 l1 l3 t211 t218 ((rd t211 x27_3) == t218) x27_3 l2_0) else (none)) else (none)) = some r := by rw [if_neg (show ¬ (false = true) by decide)] at H; exact H
                                clear H
                                have H := H1
                                clear H1
                                by_cases c75 : 0 ≤ x27_3
                                · rw [if_pos c75] at H
                                  have c75b0 : decide (0 ≤ x27_3) = true := decide_eq_true c75
                                  clear c75
                                  (first | rw [c75b0] | (simp only [i64_w, i32_w]; rw [c75b0]) | skip)
                                  by_cases c76 : x27_3 < (t211.length : Int)
                                  · rw [if_pos c76] at H
                                    have c76b0 : decide (x27_3 < (t211.length : Int)) = true := decide_eq_true c76
                                    clear c76
                                    have H' := Aside0.mk H
                                    clear H
                                    have p232 : 0 ≤ (x27_3 : Int) := of_decide_eq_true (by first | (with_reducible assumption) | assumption)
                                    have q232 : x27_3 < (t211.length : Int) := of_decide_eq_true (by first | (with_reducible assumption) | assumption)
                                    obtain ⟨ad232, e232, hx232_0⟩ := Kd.at_int (Kd.R_reads' HO_16.out).2.2 x27_3 p232 q232
                                    cases e232
                                    replace p232 := eq_true p232
                                    replace q232 := eq_true q232
                                    go_wp2
                                    repeat (go_quiet (fail); try go_wp2)
                                    go_meet
                                    case rel => exact ⟨_, (((rd t211 x27_3) == t218)), (by first | rfl | (simp; done) | (simp [*]; done)), H', ⟨by have := HJ7.out; have := HJ44.out; have := HK3.out; have := HJ67.out; first | omega | exact Nat.le_refl _⟩, ⟨by (with_reducible repeat (first | apply Kd.R_alloc | apply Kd.R_drewN | apply Kd.R_drew)); exact HO_16.out⟩, ⟨by (with_reducible repeat (first | refine blk_drewN ?_ _ | refine blk_drew ?_ | refine blk_alloc ?_ _)); exact BK204.out⟩, ⟨by repeat (first | (with_reducible first | exact HB.out | apply below_alloc | apply pw_below_drewN | apply below_drew1 | refine below_set ?_ GE204.out) | exact HB.out)⟩⟩
                                  · rw [if_neg c76] at H
                                    exact absurd H (by simp)
                                · rw [if_neg c75] at H
                                  exact absurd H (by simp)
                            case rest => as_aux_lemma =>
                              clear HC73
                              (try clear c1); (try clear c2); (try clear p2); (try clear q2); (try clear hx2); (try clear qi2); (try clear c3); (try clear c4); (try clear c5); (try clear c6); (try clear p6); (try clear c7); (try clear c11); (try clear c13); (try clear c15); (try clear c16); (try clear c16b0); (try clear c16b1); (try clear c18); (try clear c19); (try clear c19b0); (try clear c20); (try clear p20); (try clear q20); (try clear hx20); (try clear qi20); (try clear p22); (try clear q22); (try clear hx22); (try clear qi22); (try clear p23); (try clear q23); (try clear hx23); (try clear c38); (try clear c41); (try clear c41b0); (try clear c41b1); (try clear c41b2); (try clear c52); (try clear c52b0); (try clear c52b1); (try clear c53); (try clear c53b0); (try clear c53b1); (try clear c54); (try clear c54b0); (try clear c54b1); (try clear c55); (try clear c55b0); (try clear c55b1); (try clear c55b2); (try clear c57); (try clear c57b0); (try clear c57b1); (try clear c59); (try clear c59b0); (try clear c59b1); (try clear c60); (try clear c60b0); (try clear c60b1); (try clear c62); (try clear c62b0); (try clear c63); (try clear c63b0); (try clear p64); (try clear c66); (try clear c67); (try clear c67b0); (try clear c70); (try clear c70b0); (try clear c71); (try clear c71b0); (try clear c72); (try clear c74); (try clear c75); (try clear c75b0); (try clear c76); (try clear c76b0); (try clear hcz20_0); (try clear hcz22_0); (try clear hcz24_0); (try clear hcz26_0); (try clear hcz28_0); (try clear hcz30_0); (try clear hcz32_0); (try clear hcz34_0); (try clear hcz36_0); (try clear hcz46_0); (try clear hcz48_0); (try clear hcz50_0); (try clear hfz20_0); (try clear hfz22_0); (try clear hfz24_0); (try clear hfz26_0); (try clear hfz28_0); (try clear hfz30_0); (try clear hfz32_0); (try clear hfz34_0); (try clear hfz36_0); (try clear hfz46_0); (try clear hfz48_0); (try clear hfz50_0); (try clear hx208_0); (try clear hx227_0); (try clear hx228_0); (try clear hx230_0); (try clear hx231_0); (try clear hx232_0); (try clear p2); (try clear p20); (try clear p208); (try clear p22); (try clear p227); (try clear p228); (try clear p23); (try clear p230); (try clear p231); (try clear p232); (try clear p6); (try clear p64); (try clear q2); (try clear q20); (try clear q208); (try clear q22); (try clear q227); (try clear q228); (try clear q23); (try clear q230); (try clear q231); (try clear q232)
                              obtain ⟨kq, x26_72, rfl, HA, HJ72, HO_16, BK204, HB⟩ := hcut
                              cases kq with
                              | zero => exact absurd HA.out (by simp [lawWD.j4])
                              | succ kj72 =>
                                have H := HA.out
                                clear HA
                                simp only [lawWD.j4] at H
                                by_cases c77 : 0 ≤ x27_3
                                · rw [if_pos c77] at H
                                  have c77b0 : decide (0 ≤ x27_3) = true := decide_eq_true c77
                                  clear c77
                                  by_cases c78 : x27_3 < (t211.length : Int)
                                  · rw [if_pos c78] at H
                                    have c78b0 : decide (x27_3 < (t211.length : Int)) = true := decide_eq_true c78
                                    clear c78
                                    by_cases c79 : 0 ≤ (rd t211 x27_3)
                                    · rw [if_pos c79] at H
                                      have c79b0 : decide (0 ≤ (rd t211 x27_3)) = true := decide_eq_true c79
                                      clear c79
                                      by_cases c80 : (rd t211 x27_3) < (l1.length : Int)
                                      · rw [if_pos c80] at H
                                        have c80b0 : decide ((rd t211 x27_3) < (l1.length : Int)) = true := decide_eq_true c80
                                        clear c80
                                        replace H := Option.bind_eq_some_iff.mp H
                                        obtain ⟨t235, A810, H⟩ := H
                                        replace H : (lawWD.l1 kj72 a0 l1 l3 t211 t218 x26_72 x27_3 t235 false 0 l2_0) = some r := H
                                        have A81 := Aside0.mk A810
                                        clear A810
                                        have H' := Aside0.mk H
                                        clear H
                                        have p233 : 0 ≤ (x27_3 : Int) := of_decide_eq_true (by first | (with_reducible assumption) | assumption)
                                        have q233 : x27_3 < (t211.length : Int) := of_decide_eq_true (by first | (with_reducible assumption) | assumption)
                                        obtain ⟨ad233, e233, hx233_0⟩ := Kd.at_int (Kd.R_reads' HO_16.out).2.2 x27_3 p233 q233
                                        cases e233
                                        replace p233 := eq_true p233
                                        replace q233 := eq_true q233
                                        have p234 : 0 ≤ ((rd t211 x27_3) : Int) := of_decide_eq_true (by first | (with_reducible assumption) | assumption)
                                        have q234 : (rd t211 x27_3) < (l1.length : Int) := of_decide_eq_true (by first | (with_reducible assumption) | assumption)
                                        obtain ⟨ad234, A234_0, c234_0, e234, hx234_0, hl234_0, hi234_0⟩ := at_L1 HR1.out (rd t211 x27_3) p234 q234
                                        cases e234
                                        replace hx234_0 := (HB.out.cell (World.block_lt_of_cell? w _ hx234_0)).trans hx234_0
                                        have HR234_0 := Aside0.mk hi234_0
                                        have HC234_0 := Aside0.mk hl234_0
                                        clear hi234_0 hl234_0
                                        replace p234 := eq_true p234
                                        replace q234 := eq_true q234
                                        go_wp2_with (first | (go_at_call 14; (with_reducible refine (vector_Key.calls kj72 a0 _ _ (rd_L1 l1 (rd t211 x27_3)) _ _ l3 t235 _ ?side1 ?side2 ?side3 ?side4 A81.out).mono ?_); (case side1 => repeat (first | exact (Kd.C_below HR234_0.out HB.out) | (with_reducible refine Kd.C_alloc ?_ _) | (with_reducible refine Kd.C_drewN ?_ _) | (with_reducible refine Kd.C_drew ?_))); (case side2 => exact HC234_0.out); (case side3 => repeat (first | exact (Kd.C_below HR3.out HB.out) | (with_reducible refine Kd.C_alloc ?_ _) | (with_reducible refine Kd.C_drewN ?_ _) | (with_reducible refine Kd.C_drew ?_))); (case side4 => exact HC3.out); rintro e w82 ⟨rfl, hb⟩; have n0_ := Aside0.mk (Kd.R_below (by (with_reducible repeat (first | apply Kd.R_alloc | apply Kd.R_drewN | apply Kd.R_drew)); exact HO_16.out) hb); have n1_ := Aside0.mk (blk_below (g := gb204) (o := .cells #[.slice A2_0 l2_0.length c2_0] 25 (0, 0)) (by (with_reducible repeat (first | refine blk_drewN ?_ _ | refine blk_drew ?_ | refine blk_alloc ?_ _)); exact BK204.out) hb); have n2_ := Aside0.mk (below_step (by repeat (first | (with_reducible first | exact HB.out | apply below_alloc | apply pw_below_drewN | apply below_drew1 | refine below_set ?_ GE204.out) | exact HB.out)) hb); clear HO_16; clear BK204; clear HB; have HO_16 := n0_; have BK204 := n1_; have HB := n2_; clear n0_ n1_ n2_; (try clear hb); (try clear hb2); (try clear hk); (try clear hi)))
                                        repeat (go_quiet (first | (go_at_call 14; (with_reducible refine (vector_Key.calls kj72 a0 _ _ (rd_L1 l1 (rd t211 x27_3)) _ _ l3 t235 _ ?side1 ?side2 ?side3 ?side4 A81.out).mono ?_); (case side1 => repeat (first | exact (Kd.C_below HR234_0.out HB.out) | (with_reducible refine Kd.C_alloc ?_ _) | (with_reducible refine Kd.C_drewN ?_ _) | (with_reducible refine Kd.C_drew ?_))); (case side2 => exact HC234_0.out); (case side3 => repeat (first | exact (Kd.C_below HR3.out HB.out) | (with_reducible refine Kd.C_alloc ?_ _) | (with_reducible refine Kd.C_drewN ?_ _) | (with_reducible refine Kd.C_drew ?_))); (case side4 => exact HC3.out); rintro e w82 ⟨rfl, hb⟩; have n0_ := Aside0.mk (Kd.R_below (by (with_reducible repeat (first | apply Kd.R_alloc | apply Kd.R_drewN | apply Kd.R_drew)); exact HO_16.out) hb); have n1_ := Aside0.mk (blk_below (g := gb204) (o := .cells #[.slice A2_0 l2_0.length c2_0] 25 (0, 0)) (by (with_reducible repeat (first | refine blk_drewN ?_ _ | refine blk_drew ?_ | refine blk_alloc ?_ _)); exact BK204.out) hb); have n2_ := Aside0.mk (below_step (by repeat (first | (with_reducible first | exact HB.out | apply below_alloc | apply pw_below_drewN | apply below_drew1 | refine below_set ?_ GE204.out) | exact HB.out)) hb); clear HO_16; clear BK204; clear HB; have HO_16 := n0_; have BK204 := n1_; have HB := n2_; clear n0_ n1_ n2_; (try clear hb); (try clear hb2); (try clear hk); (try clear hi))); try go_wp2_with (first | (go_at_call 14; (with_reducible refine (vector_Key.calls kj72 a0 _ _ (rd_L1 l1 (rd t211 x27_3)) _ _ l3 t235 _ ?side1 ?side2 ?side3 ?side4 A81.out).mono ?_); (case side1 => repeat (first | exact (Kd.C_below HR234_0.out HB.out) | (with_reducible refine Kd.C_alloc ?_ _) | (with_reducible refine Kd.C_drewN ?_ _) | (with_reducible refine Kd.C_drew ?_))); (case side2 => exact HC234_0.out); (case side3 => repeat (first | exact (Kd.C_below HR3.out HB.out) | (with_reducible refine Kd.C_alloc ?_ _) | (with_reducible refine Kd.C_drewN ?_ _) | (with_reducible refine Kd.C_drew ?_))); (case side4 => exact HC3.out); rintro e w82 ⟨rfl, hb⟩; have n0_ := Aside0.mk (Kd.R_below (by (with_reducible repeat (first | apply Kd.R_alloc | apply Kd.R_drewN | apply Kd.R_drew)); exact HO_16.out) hb); have n1_ := Aside0.mk (blk_below (g := gb204) (o := .cells #[.slice A2_0 l2_0.length c2_0] 25 (0, 0)) (by (with_reducible repeat (first | refine blk_drewN ?_ _ | refine blk_drew ?_ | refine blk_alloc ?_ _)); exact BK204.out) hb); have n2_ := Aside0.mk (below_step (by repeat (first | (with_reducible first | exact HB.out | apply below_alloc | apply pw_below_drewN | apply below_drew1 | refine below_set ?_ GE204.out) | exact HB.out)) hb); clear HO_16; clear BK204; clear HB; have HO_16 := n0_; have BK204 := n1_; have HB := n2_; clear n0_ n1_ n2_; (try clear hb); (try clear hb2); (try clear hk); (try clear hi))))
                                        go_loopg [29, 30] kj72 (fun kq v29 v30 w' => ∃ (x29_6 : Bool) (x30_6 : Int), v29 = .bool x29_6 ∧ v30 = .int .i64 x30_6 ∧ Aside0 (lawWD.l1 kq a0 l1 l3 t211 t218 x26_72 x27_3 t235 x29_6 x30_6 l2_0 = some r) ∧ Aside0 (kq ≤ kj72) ∧ Aside0 (Kd.R (Kd.int .i64) 3 w' w.heap.size (fun _ => True) (.slice (some ad233) t211.length co69) t211) ∧ Aside0 (w'.heap[gb204]? = some (.cells #[(.slice A2_0 l2_0.length c2_0)] 25 (0, 0))) ∧ Aside0 (Below w.heap.size w w'))
                                        case atStart => exact ⟨(false), (0), (by first | rfl | (simp; done) | (simp [*]; done)), (by first | rfl | (simp; done) | (simp [*]; done)), H', ⟨Nat.le_refl _⟩, ⟨by (with_reducible repeat (first | apply Kd.R_alloc | apply Kd.R_drewN | apply Kd.R_drew)); exact HO_16.out⟩, ⟨by (with_reducible repeat (first | refine blk_drewN ?_ _ | refine blk_drew ?_ | refine blk_alloc ?_ _)); exact BK204.out⟩, ⟨by repeat (first | (with_reducible first | exact HB.out | apply below_alloc | apply pw_below_drewN | apply below_drew1 | refine below_set ?_ GE204.out) | exact HB.out)⟩⟩
                                        case round =>
                                          clear H'
                                          (try clear c1); (try clear c2); (try clear p2); (try clear q2); (try clear hx2); (try clear qi2); (try clear c3); (try clear c4); (try clear c5); (try clear c6); (try clear p6); (try clear c7); (try clear c8); (try clear c11); (try clear c13); (try clear c15); (try clear c16); (try clear c16b0); (try clear c16b1); (try clear c18); (try clear c19); (try clear c19b0); (try clear c20); (try clear p20); (try clear q20); (try clear hx20); (try clear qi20); (try clear p22); (try clear q22); (try clear hx22); (try clear qi22); (try clear c23); (try clear p23); (try clear q23); (try clear hx23); (try clear c38); (try clear c41); (try clear c41b0); (try clear c41b1); (try clear c41b2); (try clear c52); (try clear c52b0); (try clear c52b1); (try clear c53); (try clear c53b0); (try clear c53b1); (try clear c54); (try clear c54b0); (try clear c54b1); (try clear c55); (try clear c55b0); (try clear c55b1); (try clear c55b2); (try clear c57); (try clear c57b0); (try clear c57b1); (try clear c59); (try clear c59b0); (try clear c59b1); (try clear c60); (try clear c60b0); (try clear c60b1); (try clear c62); (try clear c62b0); (try clear c63); (try clear c63b0); (try clear p64); (try clear c66); (try clear c67); (try clear c67b0); (try clear c70); (try clear c70b0); (try clear c71); (try clear c71b0); (try clear c72); (try clear c74); (try clear c75); (try clear c75b0); (try clear c76); (try clear c76b0); (try clear c77); (try clear c77b0); (try clear c78); (try clear c78b0); (try clear c79); (try clear c79b0); (try clear c80); (try clear c80b0); (try clear hcz20_0); (try clear hcz22_0); (try clear hcz24_0); (try clear hcz26_0); (try clear hcz28_0); (try clear hcz30_0); (try clear hcz32_0); (try clear hcz34_0); (try clear hcz36_0); (try clear hcz46_0); (try clear hcz48_0); (try clear hcz50_0); (try clear hfz20_0); (try clear hfz22_0); (try clear hfz24_0); (try clear hfz26_0); (try clear hfz28_0); (try clear hfz30_0); (try clear hfz32_0); (try clear hfz34_0); (try clear hfz36_0); (try clear hfz46_0); (try clear hfz48_0); (try clear hfz50_0); (try clear hx208_0); (try clear hx227_0); (try clear hx228_0); (try clear hx230_0); (try clear hx231_0); (try clear hx232_0); (try clear hx233_0); (try clear hx234_0); (try clear p2); (try clear p20); (try clear p208); (try clear p22); (try clear p227); (try clear p228); (try clear p23); (try clear p230); (try clear p231); (try clear p232); (try clear p233); (try clear p234); (try clear p6); (try clear p64); (try clear q2); (try clear q20); (try clear q208); (try clear q22); (try clear q227); (try clear q228); (try clear q23); (try clear q230); (try clear q231); (try clear q232); (try clear q233); (try clear q234)
                                          obtain ⟨x29_6, x30_6, rfl, rfl, HA, HK6, HO_16, BK204, HB⟩ := hrel
                                          cases gk with
                                          | zero => exact absurd HA.out (by simp [lawWD.l1])
                                          | succ k6 =>
                                            have H := HA.out
                                            clear HA
                                            simp only [lawWD.l1] at H
                                            by_cases c83 : 0 ≤ x27_3
                                            · rw [if_pos c83] at H
                                              have c83b0 : decide (0 ≤ x27_3) = true := decide_eq_true c83
                                              clear c83
                                              by_cases c84 : x27_3 < (t211.length : Int)
                                              · rw [if_pos c84] at H
                                                have c84b0 : decide (x27_3 < (t211.length : Int)) = true := decide_eq_true c84
                                                clear c84
                                                by_cases c85 : 0 ≤ (rd t211 x27_3)
                                                · rw [if_pos c85] at H
                                                  have c85b0 : decide (0 ≤ (rd t211 x27_3)) = true := decide_eq_true c85
                                                  clear c85
                                                  by_cases c86 : (rd t211 x27_3) < (l2_0.length : Int)
                                                  · rw [if_pos c86] at H
                                                    have c86b0 : decide ((rd t211 x27_3) < (l2_0.length : Int)) = true := decide_eq_true c86
                                                    clear c86
                                                    by_cases c87 : x30_6 < (((rd_T39 l2_0 (rd t211 x27_3)).f1).length : Int)
                                                    · rw [if_pos c87] at H
                                                      have c87b0 : decide (x30_6 < (((rd_T39 l2_0 (rd t211 x27_3)).f1).length : Int)) = true := decide_eq_true c87
                                                      clear c87
                                                      by_cases c88 : 0 ≤ x30_6
                                                      · rw [if_pos c88] at H
                                                        have c88b0 : decide (0 ≤ x30_6) = true := decide_eq_true c88
                                                        clear c88
                                                        by_cases c89 : 0 ≤ (rd ((rd_T39 l2_0 (rd t211 x27_3)).f1) x30_6)
                                                        · rw [if_pos c89] at H
                                                          have c89b0 : decide (0 ≤ (rd ((rd_T39 l2_0 (rd t211 x27_3)).f1) x30_6)) = true := decide_eq_true c89
                                                          clear c89
                                                          by_cases c90 : (rd ((rd_T39 l2_0 (rd t211 x27_3)).f1) x30_6) < (l1.length : Int)
                                                          · rw [if_pos c90] at H
                                                            have c90b0 : decide ((rd ((rd_T39 l2_0 (rd t211 x27_3)).f1) x30_6) < (l1.length : Int)) = true := decide_eq_true c90
                                                            clear c90
                                                            replace H := Option.bind_eq_some_iff.mp H
                                                            obtain ⟨t242, A910, H⟩ := H
                                                            replace H : (if t242 < t235 then (if x27_3 = (wrap64 ((t211.length : Int) - 1)) then (some false) else (if x29_6 = true then (lawWD.l1 k6 a0 l1 l3 t211 t218 x26_72 x27_3 t235 true (wrap64 (x30_6 + 1)) l2_0) else (if x27_3 < (wrap64 ((t211.length : Int) - 1)) then (if 0 ≤ (wrap64 (x27_3 + 1)) then (if (wrap64 (x27_3 + 1)) < (t211.length : Int) then (lawWD.l1 k6 a0 l1 l3 t211 t218 x26_72 x27_3 t235 ((rd ((rd_T39 l2_0 (rd t211 x27_3)).f1) x30_6) == (rd t211 (wrap64 (x27_3 + 1)))) (wrap64 (x30_6 + 1)) l2_0) else (none)) else (none)) else (lawWD.l1 k6 a0 l1 l3 t211 t218 x26_72 x27_3 t235 false (wrap64 (x30_6 + 1)) l2_0)))) else (if x29_6 = true then (lawWD.l1 k6 a0 l1 l3 t211 t218 x26_72 x27_3 t235 true (wrap64 (x30_6 + 1)) l2_0) else (lawWD.l1 k6 a0 l1 l3 t211 t218 x26_72 x27_3 t235 false (wrap64 (x30_6 + 1)) l2_0))) = some r := H
                                                            have A91 := Aside0.mk A910
                                                            clear A910
                                                            by_cases c92 : t242 < t235
                                                            · rw [if_pos c92] at H
                                                              have c92b0 : decide (t242 < t235) = true := decide_eq_true c92
                                                              clear c92
                                                              by_cases c93 : x27_3 = (wrap64 ((t211.length : Int) - 1))
                                                              · rw [if_pos c93] at H
                                                                have c93b0 : (x27_3 == (wrap64 ((t211.length : Int) - 1))) = true := beq_iff_eq.mpr c93
                                                                have c93b1 : (x27_3 != (wrap64 ((t211.length : Int) - 1))) = false := bne_eq_false_iff_eq.mpr c93
                                                                clear c93
                                                                obtain rfl := Option.some.inj H
                                                                have hcz94_0 : wr.cell? ⟨gb204, 0, none⟩ = some (.slice A2_0 l2_0.length c2_0) := (blk_cell BK204.out 0).trans rfl
                                                                have hfz94_0 := blk_frozen BK204.out 0
                                                                have p236 : 0 ≤ (x27_3 : Int) := of_decide_eq_true (by first | (with_reducible assumption) | assumption)
                                                                have q236 : x27_3 < (t211.length : Int) := of_decide_eq_true (by first | (with_reducible assumption) | assumption)
                                                                obtain ⟨ad236, e236, hx236_0⟩ := Kd.at_int (Kd.R_reads' HO_16.out).2.2 x27_3 p236 q236
                                                                obtain rfl : ad233 = ad236 := (by injection e236)
                                                                replace p236 := eq_true p236
                                                                replace q236 := eq_true q236
                                                                have p237 : 0 ≤ ((rd t211 x27_3) : Int) := of_decide_eq_true (by first | (with_reducible assumption) | assumption)
                                                                have q237 : (rd t211 x27_3) < (l2_0.length : Int) := of_decide_eq_true (by first | (with_reducible assumption) | assumption)
                                                                obtain ⟨ad237, A237_1, c237_1, e237, hx237_0, hx237_1, hl237_1, hi237_1⟩ := at_T39 HR2_0.out (rd t211 x27_3) p237 q237
                                                                cases e237
                                                                replace hx237_0 := (HB.out.cell (World.block_lt_of_cell? w _ hx237_0)).trans hx237_0
                                                                replace hx237_1 := (HB.out.cell (World.block_lt_of_cell? w _ hx237_1)).trans hx237_1
                                                                have HR237_1 := Aside0.mk hi237_1
                                                                have HC237_1 := Aside0.mk hl237_1
                                                                clear hi237_1 hl237_1
                                                                replace p237 := eq_true p237
                                                                replace q237 := eq_true q237
                                                                have p238 : 0 ≤ (x27_3 : Int) := of_decide_eq_true (by first | (with_reducible assumption) | assumption)
                                                                have q238 : x27_3 < (t211.length : Int) := of_decide_eq_true (by first | (with_reducible assumption) | assumption)
                                                                obtain ⟨ad238, e238, hx238_0⟩ := Kd.at_int (Kd.R_reads' HO_16.out).2.2 x27_3 p238 q238
                                                                obtain rfl : ad233 = ad238 := (by injection e238)
                                                                replace p238 := eq_true p238
                                                                replace q238 := eq_true q238
                                                                have p239 : 0 ≤ ((rd t211 x27_3) : Int) := of_decide_eq_true (by first | (with_reducible assumption) | assumption)
                                                                have q239 : (rd t211 x27_3) < (l2_0.length : Int) := of_decide_eq_true (by first | (with_reducible assumption) | assumption)
                                                                obtain ⟨ad239, A239_1, c239_1, e239, hx239_0, hx239_1, hl239_1, hi239_1⟩ := at_T39 HR2_0.out (rd t211 x27_3) p239 q239
                                                                obtain rfl : ad237 = ad239 := (by injection e239)
                                                                replace hx239_0 := (HB.out.cell (World.block_lt_of_cell? w _ hx239_0)).trans hx239_0
                                                                replace hx239_1 := (HB.out.cell (World.block_lt_of_cell? w _ hx239_1)).trans hx239_1
                                                                have HR239_1 := Aside0.mk hi239_1
                                                                have HC239_1 := Aside0.mk hl239_1
                                                                clear hi239_1 hl239_1
                                                                replace p239 := eq_true p239
                                                                replace q239 := eq_true q239
                                                                have ea_ := Option.some.inj (hx237_1.symm.trans hx239_1)
                                                                injection ea_ with ea_ en_ ec_
                                                                subst ea_
                                                                subst ec_
                                                                clear en_
                                                                have p240 : 0 ≤ (x30_6 : Int) := of_decide_eq_true (by first | (with_reducible assumption) | assumption)
                                                                have q240 : x30_6 < (((rd_T39 l2_0 (rd t211 x27_3)).f1).length : Int) := of_decide_eq_true (by first | (with_reducible assumption) | assumption)
                                                                obtain ⟨ad240, e240, hx240_0⟩ := Kd.at_int HR239_1.out x30_6 p240 q240
                                                                cases e240
                                                                replace hx240_0 := (HB.out.cell (World.block_lt_of_cell? w _ hx240_0)).trans hx240_0
                                                                replace p240 := eq_true p240
                                                                replace q240 := eq_true q240
                                                                have p241 : 0 ≤ ((rd ((rd_T39 l2_0 (rd t211 x27_3)).f1) x30_6) : Int) := of_decide_eq_true (by first | (with_reducible assumption) | assumption)
                                                                have q241 : (rd ((rd_T39 l2_0 (rd t211 x27_3)).f1) x30_6) < (l1.length : Int) := of_decide_eq_true (by first | (with_reducible assumption) | assumption)
                                                                obtain ⟨ad241, A241_0, c241_0, e241, hx241_0, hl241_0, hi241_0⟩ := at_L1 HR1.out (rd ((rd_T39 l2_0 (rd t211 x27_3)).f1) x30_6) p241 q241
                                                                obtain rfl : ad234 = ad241 := (by injection e241)
                                                                replace hx241_0 := (HB.out.cell (World.block_lt_of_cell? w _ hx241_0)).trans hx241_0
                                                                have HR241_0 := Aside0.mk hi241_0
                                                                have HC241_0 := Aside0.mk hl241_0
                                                                clear hi241_0 hl241_0
                                                                replace p241 := eq_true p241
                                                                replace q241 := eq_true q241
                                                                go_wp2_with (first | (go_at_call 14; (with_reducible refine (vector_Key.calls k6 a0 _ _ (rd_L1 l1 (rd ((rd_T39 l2_0 (rd t211 x27_3)).f1) x30_6)) _ _ l3 t242 _ ?side1 ?side2 ?side3 ?side4 A91.out).mono ?_); (case side1 => repeat (first | exact (Kd.C_below HR241_0.out HB.out) | (with_reducible refine Kd.C_alloc ?_ _) | (with_reducible refine Kd.C_drewN ?_ _) | (with_reducible refine Kd.C_drew ?_))); (case side2 => exact HC241_0.out); (case side3 => repeat (first | exact (Kd.C_below HR3.out HB.out) | (with_reducible refine Kd.C_alloc ?_ _) | (with_reducible refine Kd.C_drewN ?_ _) | (with_reducible refine Kd.C_drew ?_))); (case side4 => exact HC3.out); rintro e w95 ⟨rfl, hb⟩; have n0_ := Aside0.mk (Kd.R_below (by (with_reducible repeat (first | apply Kd.R_alloc | apply Kd.R_drewN | apply Kd.R_drew)); exact HO_16.out) hb); have n1_ := Aside0.mk (blk_below (g := gb204) (o := .cells #[.slice (some ad237) l2_0.length c2_0] 25 (0, 0)) (by (with_reducible repeat (first | refine blk_drewN ?_ _ | refine blk_drew ?_ | refine blk_alloc ?_ _)); exact BK204.out) hb); have n2_ := Aside0.mk (below_step (by repeat (first | (with_reducible first | exact HB.out | apply below_alloc | apply pw_below_drewN | apply below_drew1 | refine below_set ?_ GE204.out) | exact HB.out)) hb); clear HO_16; clear BK204; clear HB; have HO_16 := n0_; have BK204 := n1_; have HB := n2_; clear n0_ n1_ n2_; (try clear hb); (try clear hb2); (try clear hk); (try clear hi)))
                                                                repeat (go_quiet (first | (go_at_call 14; (with_reducible refine (vector_Key.calls k6 a0 _ _ (rd_L1 l1 (rd ((rd_T39 l2_0 (rd t211 x27_3)).f1) x30_6)) _ _ l3 t242 _ ?side1 ?side2 ?side3 ?side4 A91.out).mono ?_); (case side1 => repeat (first | exact (Kd.C_below HR241_0.out HB.out) | (with_reducible refine Kd.C_alloc ?_ _) | (with_reducible refine Kd.C_drewN ?_ _) | (with_reducible refine Kd.C_drew ?_))); (case side2 => exact HC241_0.out); (case side3 => repeat (first | exact (Kd.C_below HR3.out HB.out) | (with_reducible refine Kd.C_alloc ?_ _) | (with_reducible refine Kd.C_drewN ?_ _) | (with_reducible refine Kd.C_drew ?_))); (case side4 => exact HC3.out); rintro e w95 ⟨rfl, hb⟩; have n0_ := Aside0.mk (Kd.R_below (by (with_reducible repeat (first | apply Kd.R_alloc | apply Kd.R_drewN | apply Kd.R_drew)); exact HO_16.out) hb); have n1_ := Aside0.mk (blk_below (g := gb204) (o := .cells #[.slice (some ad237) l2_0.length c2_0] 25 (0, 0)) (by (with_reducible repeat (first | refine blk_drewN ?_ _ | refine blk_drew ?_ | refine blk_alloc ?_ _)); exact BK204.out) hb); have n2_ := Aside0.mk (below_step (by repeat (first | (with_reducible first | exact HB.out | apply below_alloc | apply pw_below_drewN | apply below_drew1 | refine below_set ?_ GE204.out) | exact HB.out)) hb); clear HO_16; clear BK204; clear HB; have HO_16 := n0_; have BK204 := n1_; have HB := n2_; clear n0_ n1_ n2_; (try clear hb); (try clear hb2); (try clear hk); (try clear hi))); try go_wp2_with (first | (go_at_call 14; (with_reducible refine (vector_Key.calls k6 a0 _ _ (rd_L1 l1 (rd ((rd_T39 l2_0 (rd t211 x27_3)).f1) x30_6)) _ _ l3 t242 _ ?side1 ?side2 ?side3 ?side4 A91.out).mono ?_); (case side1 => repeat (first | exact (Kd.C_below HR241_0.out HB.out) | (with_reducible refine Kd.C_alloc ?_ _) | (with_reducible refine Kd.C_drewN ?_ _) | (with_reducible refine Kd.C_drew ?_))); (case side2 => exact HC241_0.out); (case side3 => repeat (first | exact (Kd.C_below HR3.out HB.out) | (with_reducible refine Kd.C_alloc ?_ _) | (with_reducible refine Kd.C_drewN ?_ _) | (with_reducible refine Kd.C_drew ?_))); (case side4 => exact HC3.out); rintro e w95 ⟨rfl, hb⟩; have n0_ := Aside0.mk (Kd.R_below (by (with_reducible repeat (first | apply Kd.R_alloc | apply Kd.R_drewN | apply Kd.R_drew)); exact HO_16.out) hb); have n1_ := Aside0.mk (blk_below (g := gb204) (o := .cells #[.slice (some ad237) l2_0.length c2_0] 25 (0, 0)) (by (with_reducible repeat (first | refine blk_drewN ?_ _ | refine blk_drew ?_ | refine blk_alloc ?_ _)); exact BK204.out) hb); have n2_ := Aside0.mk (below_step (by repeat (first | (with_reducible first | exact HB.out | apply below_alloc | apply pw_below_drewN | apply below_drew1 | refine below_set ?_ GE204.out) | exact HB.out)) hb); clear HO_16; clear BK204; clear HB; have HO_16 := n0_; have BK204 := n1_; have HB := n2_; clear n0_ n1_ n2_; (try clear hb); (try clear hb2); (try clear hk); (try clear hi))))
                                                                go_ret
                                                                exact ⟨by first | rfl | (simp [errW_none, errW_some] <;> rfl) | (simp [*, errW_none, errW_some] <;> rfl), by repeat (first | (with_reducible first | exact HB.out | apply below_alloc | apply pw_below_drewN | apply below_drew1 | refine below_set ?_ GE204.out) | exact HB.out)⟩
                                                              · rw [if_neg c93] at H
                                                                have c93b0 : (x27_3 == (wrap64 ((t211.length : Int) - 1))) = false := beq_eq_false_iff_ne.mpr c93
                                                                have c93b1 : (x27_3 != (wrap64 ((t211.length : Int) - 1))) = true := bne_iff_ne.mpr c93
                                                                by_cases c96 : x29_6 = true
                                                                · subst c96
                                                                  have H1 : (lawWD.l1 k6 a0 l1 l3 t211 t218 x26_72 x27_3 t235 true (wrap64 (x30_6 + 1)) l2_0) = some r := by rw [if_pos rfl] at H; exact H
                                                                  clear H
                                                                  have H := H1
                                                                  clear H1
                                                                  have H' := Aside0.mk H
                                                                  clear H
                                                                  have hcz97_0 : wr.cell? ⟨gb204, 0, none⟩ = some (.slice A2_0 l2_0.length c2_0) := (blk_cell BK204.out 0).trans rfl
                                                                  have hfz97_0 := blk_frozen BK204.out 0
                                                                  have p236 : 0 ≤ (x27_3 : Int) := of_decide_eq_true (by first | (with_reducible assumption) | assumption)
                                                                  have q236 : x27_3 < (t211.length : Int) := of_decide_eq_true (by first | (with_reducible assumption) | assumption)
                                                                  obtain ⟨ad236, e236, hx236_0⟩ := Kd.at_int (Kd.R_reads' HO_16.out).2.2 x27_3 p236 q236
                                                                  obtain rfl : ad233 = ad236 := (by injection e236)
                                                                  replace p236 := eq_true p236
                                                                  replace q236 := eq_true q236
                                                                  have p237 : 0 ≤ ((rd t211 x27_3) : Int) := of_decide_eq_true (by first | (with_reducible assumption) | assumption)
                                                                  have q237 : (rd t211 x27_3) < (l2_0.length : Int) := of_decide_eq_true (by first | (with_reducible assumption) | assumption)
                                                                  obtain ⟨ad237, A237_1, c237_1, e237, hx237_0, hx237_1, hl237_1, hi237_1⟩ := at_T39 HR2_0.out (rd t211 x27_3) p237 q237
                                                                  cases e237
                                                                  replace hx237_0 := (HB.out.cell (World.block_lt_of_cell? w _ hx237_0)).trans hx237_0
                                                                  replace hx237_1 := (HB.out.cell (World.block_lt_of_cell? w _ hx237_1)).trans hx237_1
                                                                  have HR237_1 := Aside0.mk hi237_1
                                                                  have HC237_1 := Aside0.mk hl237_1
                                                                  clear hi237_1 hl237_1
                                                                  replace p237 := eq_true p237
                                                                  replace q237 := eq_true q237
                                                                  have p238 : 0 ≤ (x27_3 : Int) := of_decide_eq_true (by first | (with_reducible assumption) | assumption)
                                                                  have q238 : x27_3 < (t211.length : Int) := of_decide_eq_true (by first | (with_reducible assumption) | assumption)
                                                                  obtain ⟨ad238, e238, hx238_0⟩ := Kd.at_int (Kd.R_reads' HO_16.out).2.2 x27_3 p238 q238
                                                                  obtain rfl : ad233 = ad238 := (by injection e238)
                                                                  replace p238 := eq_true p238
                                                                  replace q238 := eq_true q238
                                                                  have p239 : 0 ≤ ((rd t211 x27_3) : Int) := of_decide_eq_true (by first | (with_reducible assumption) | assumption)
                                                                  have q239 : (rd t211 x27_3) < (l2_0.length : Int) := of_decide_eq_true (by first | (with_reducible assumption) | assumption)
                                                                  obtain ⟨ad239, A239_1, c239_1, e239, hx239_0, hx239_1, hl239_1, hi239_1⟩ := at_T39 HR2_0.out (rd t211 x27_3) p239 q239
                                                                  obtain rfl : ad237 = ad239 := (by injection e239)
                                                                  replace hx239_0 := (HB.out.cell (World.block_lt_of_cell? w _ hx239_0)).trans hx239_0
                                                                  replace hx239_1 := (HB.out.cell (World.block_lt_of_cell? w _ hx239_1)).trans hx239_1
                                                                  have HR239_1 := Aside0.mk hi239_1
                                                                  have HC239_1 := Aside0.mk hl239_1
                                                                  clear hi239_1 hl239_1
                                                                  replace p239 := eq_true p239
                                                                  replace q239 := eq_true q239
                                                                  have ea_ := Option.some.inj (hx237_1.symm.trans hx239_1)
                                                                  injection ea_ with ea_ en_ ec_
                                                                  subst ea_
                                                                  subst ec_
                                                                  clear en_
                                                                  have p240 : 0 ≤ (x30_6 : Int) := of_decide_eq_true (by first | (with_reducible assumption) | assumption)
                                                                  have q240 : x30_6 < (((rd_T39 l2_0 (rd t211 x27_3)).f1).length : Int) := of_decide_eq_true (by first | (with_reducible assumption) | assumption)
                                                                  obtain ⟨ad240, e240, hx240_0⟩ := Kd.at_int HR239_1.out x30_6 p240 q240
                                                                  cases e240
                                                                  replace hx240_0 := (HB.out.cell (World.block_lt_of_cell? w _ hx240_0)).trans hx240_0
                                                                  replace p240 := eq_true p240
                                                                  replace q240 := eq_true q240
                                                                  have p241 : 0 ≤ ((rd ((rd_T39 l2_0 (rd t211 x27_3)).f1) x30_6) : Int) := of_decide_eq_true (by first | (with_reducible assumption) | assumption)
                                                                  have q241 : (rd ((rd_T39 l2_0 (rd t211 x27_3)).f1) x30_6) < (l1.length : Int) := of_decide_eq_true (by first | (with_reducible assumption) | assumption)
                                                                  obtain ⟨ad241, A241_0, c241_0, e241, hx241_0, hl241_0, hi241_0⟩ := at_L1 HR1.out (rd ((rd_T39 l2_0 (rd t211 x27_3)).f1) x30_6) p241 q241
                                                                  obtain rfl : ad234 = ad241 := (by injection e241)
                                                                  replace hx241_0 := (HB.out.cell (World.block_lt_of_cell? w _ hx241_0)).trans hx241_0
                                                                  have HR241_0 := Aside0.mk hi241_0
                                                                  have HC241_0 := Aside0.mk hl241_0
                                                                  clear hi241_0 hl241_0
                                                                  replace p241 := eq_true p241
                                                                  replace q241 := eq_true q241
                                                                  go_wp2_with (first | (go_at_call 14; (with_reducible refine (vector_Key.calls k6 a0 _ _ (rd_L1 l1 (rd ((rd_T39 l2_0 (rd t211 x27_3)).f1) x30_6)) _ _ l3 t242 _ ?side1 ?side2 ?side3 ?side4 A91.out).mono ?_); (case side1 => repeat (first | exact (Kd.C_below HR241_0.out HB.out) | (with_reducible refine Kd.C_alloc ?_ _) | (with_reducible refine Kd.C_drewN ?_ _) | (with_reducible refine Kd.C_drew ?_))); (case side2 => exact HC241_0.out); (case side3 => repeat (first | exact (Kd.C_below HR3.out HB.out) | (with_reducible refine Kd.C_alloc ?_ _) | (with_reducible refine Kd.C_drewN ?_ _) | (with_reducible refine Kd.C_drew ?_))); (case side4 => exact HC3.out); rintro e w98 ⟨rfl, hb⟩; have n0_ := Aside0.mk (Kd.R_below (by (with_reducible repeat (first | apply Kd.R_alloc | apply Kd.R_drewN | apply Kd.R_drew)); exact HO_16.out) hb); have n1_ := Aside0.mk (blk_below (g := gb204) (o := .cells #[.slice (some ad237) l2_0.length c2_0] 25 (0, 0)) (by (with_reducible repeat (first | refine blk_drewN ?_ _ | refine blk_drew ?_ | refine blk_alloc ?_ _)); exact BK204.out) hb); have n2_ := Aside0.mk (below_step (by repeat (first | (with_reducible first | exact HB.out | apply below_alloc | apply pw_below_drewN | apply below_drew1 | refine below_set ?_ GE204.out) | exact HB.out)) hb); clear HO_16; clear BK204; clear HB; have HO_16 := n0_; have BK204 := n1_; have HB := n2_; clear n0_ n1_ n2_; (try clear hb); (try clear hb2); (try clear hk); (try clear hi)))
                                                                  repeat (go_quiet (first | (go_at_call 14; (with_reducible refine (vector_Key.calls k6 a0 _ _ (rd_L1 l1 (rd ((rd_T39 l2_0 (rd t211 x27_3)).f1) x30_6)) _ _ l3 t242 _ ?side1 ?side2 ?side3 ?side4 A91.out).mono ?_); (case side1 => repeat (first | exact (Kd.C_below HR241_0.out HB.out) | (with_reducible refine Kd.C_alloc ?_ _) | (with_reducible refine Kd.C_drewN ?_ _) | (with_reducible refine Kd.C_drew ?_))); (case side2 => exact HC241_0.out); (case side3 => repeat (first | exact (Kd.C_below HR3.out HB.out) | (with_reducible refine Kd.C_alloc ?_ _) | (with_reducible refine Kd.C_drewN ?_ _) | (with_reducible refine Kd.C_drew ?_))); (case side4 => exact HC3.out); rintro e w98 ⟨rfl, hb⟩; have n0_ := Aside0.mk (Kd.R_below (by (with_reducible repeat (first | apply Kd.R_alloc | apply Kd.R_drewN | apply Kd.R_drew)); exact HO_16.out) hb); have n1_ := Aside0.mk (blk_below (g := gb204) (o := .cells #[.slice (some ad237) l2_0.length c2_0] 25 (0, 0)) (by (with_reducible repeat (first | refine blk_drewN ?_ _ | refine blk_drew ?_ | refine blk_alloc ?_ _)); exact BK204.out) hb); have n2_ := Aside0.mk (below_step (by repeat (first | (with_reducible first | exact HB.out | apply below_alloc | apply pw_below_drewN | apply below_drew1 | refine below_set ?_ GE204.out) | exact HB.out)) hb); clear HO_16; clear BK204; clear HB; have HO_16 := n0_; have BK204 := n1_; have HB := n2_; clear n0_ n1_ n2_; (try clear hb); (try clear hb2); (try clear hk); (try clear hi))); try go_wp2_with (first | (go_at_call 14; (with_reducible refine (vector_Key.calls k6 a0 _ _ (rd_L1 l1 (rd ((rd_T39 l2_0 (rd t211 x27_3)).f1) x30_6)) _ _ l3 t242 _ ?side1 ?side2 ?side3 ?side4 A91.out).mono ?_); (case side1 => repeat (first | exact (Kd.C_below HR241_0.out HB.out) | (with_reducible refine Kd.C_alloc ?_ _) | (with_reducible refine Kd.C_drewN ?_ _) | (with_reducible refine Kd.C_drew ?_))); (case side2 => exact HC241_0.out); (case side3 => repeat (first | exact (Kd.C_below HR3.out HB.out) | (with_reducible refine Kd.C_alloc ?_ _) | (with_reducible refine Kd.C_drewN ?_ _) | (with_reducible refine Kd.C_drew ?_))); (case side4 => exact HC3.out); rintro e w98 ⟨rfl, hb⟩; have n0_ := Aside0.mk (Kd.R_below (by (with_reducible repeat (first | apply Kd.R_alloc | apply Kd.R_drewN | apply Kd.R_drew)); exact HO_16.out) hb); have n1_ := Aside0.mk (blk_below (g := gb204) (o := .cells #[.slice (some ad237) l2_0.length c2_0] 25 (0, 0)) (by (with_reducible repeat (first | refine blk_drewN ?_ _ | refine blk_drew ?_ | refine blk_alloc ?_ _)); exact BK204.out) hb); have n2_ := Aside0.mk (below_step (by repeat (first | (with_reducible first | exact HB.out | apply below_alloc | apply pw_below_drewN | apply below_drew1 | refine below_set ?_ GE204.out) | exact HB.out)) hb); clear HO_16; clear BK204; clear HB; have HO_16 := n0_; have BK204 := n1_; have HB := n2_; clear n0_ n1_ n2_; (try clear hb); (try clear hb2); (try clear hk); (try clear hi))))
                                                                  go_roundg k6
                                                                  case measure => have := HJ7.out; have := HJ44.out; have := HK3.out; have := HJ67.out; have := HJ72.out; have := HK6.out; omega
                                                                  case rel => exact ⟨(true), (wrap64 (x30_6 + 1)), (by first | rfl | (simp; done) | (simp [*]; done)), (by first | rfl | (simp; done) | (simp [*]; done)), H', ⟨by have := HJ7.out; have := HJ44.out; have := HK3.out; have := HJ67.out; have := HJ72.out; have := HK6.out; omega⟩, ⟨by (with_reducible repeat (first | apply Kd.R_alloc | apply Kd.R_drewN | apply Kd.R_drew)); exact HO_16.out⟩, ⟨by (with_reducible repeat (first | refine blk_drewN ?_ _ | refine blk_drew ?_ | refine blk_alloc ?_ _)); exact BK204.out⟩, ⟨by repeat (first | (with_reducible first | exact HB.out | apply below_alloc | apply pw_below_drewN | apply below_drew1 | refine below_set ?_ GE204.out) | exact HB.out)⟩⟩
                                                                · replace c96 := Bool.eq_false_iff.mpr c96
                                                                  subst c96
                                                                  have H1 : (if x27_3 < (wrap64 ((t211.length : Int) - 1)) then (if 0 ≤ (wrap64 (x27_3 + 1)) then (if (wrap64 (x27_3 + 1)) < (t211.length : Int) then (lawWD.l1 k6 a0 l1 l3 t211 t218 x26_72 x27_3 t235 ((rd ((rd_T39 l2_0 (rd t211 x27_3)).f1) x30_6) == (rd t211 (wrap64 (x27_3 + 1)))) (wrap64 (x30_6 + 1)) l2_0) else (none)) else (none)) else (lawWD.l1 k6 a0 l1 l3 t211 t218 x26_72 x27_3 t235 false (wrap64 (x30_6 + 1)) l2_0)) = some r := by rw [if_neg (show ¬ (false = true) by decide)] at H; exact H
                                                                  clear H
                                                                  have H := H1
                                                                  clear H1
                                                                  by_cases c99 : x27_3 < (wrap64 ((t211.length : Int) - 1))
                                                                  · rw [if_pos c99] at H
                                                                    have c99b0 : decide (x27_3 < (wrap64 ((t211.length : Int) - 1))) = true := decide_eq_true c99
                                                                    clear c99
                                                                    obtain ⟨ji100, hji100⟩ : ∃ j_ : Int, (wrap64 (x27_3 + 1)) = j_ := ⟨_, rfl⟩
                                                                    replace H : (if 0 ≤ (ji100) then (if (ji100) < (t211.length : Int) then (lawWD.l1 k6 a0 l1 l3 t211 t218 x26_72 x27_3 t235 ((rd ((rd_T39 l2_0 (rd t211 x27_3)).f1) x30_6) == (rd t211 (ji100))) (wrap64 (x30_6 + 1)) l2_0) else (none)) else (none)) = some r := by first | (rw [hji100] at H; exact H) | (simp only [hji100] at H ⊢; exact H)
                                                                    (try rw [hji100] at A91)
                                                                    have hji100w : (IntKind.i64.wrap (x27_3 + 1)) = ji100 := (i64_w _).trans hji100
                                                                    by_cases c101 : 0 ≤ (ji100)
                                                                    · rw [if_pos c101] at H
                                                                      have c101b0 : decide (0 ≤ (ji100)) = true := decide_eq_true c101
                                                                      clear c101
                                                                      by_cases c102 : (ji100) < (t211.length : Int)
                                                                      · rw [if_pos c102] at H
                                                                        have c102b0 : decide ((ji100) < (t211.length : Int)) = true := decide_eq_true c102
                                                                        clear c102
                                                                        have H' := Aside0.mk H
                                                                        clear H
                                                                        have hcz103_0 : wr.cell? ⟨gb204, 0, none⟩ = some (.slice A2_0 l2_0.length c2_0) := (blk_cell BK204.out 0).trans rfl
                                                                        have hfz103_0 := blk_frozen BK204.out 0
                                                                        have p236 : 0 ≤ (x27_3 : Int) := of_decide_eq_true (by first | (with_reducible assumption) | assumption)
                                                                        have q236 : x27_3 < (t211.length : Int) := of_decide_eq_true (by first | (with_reducible assumption) | assumption)
                                                                        obtain ⟨ad236, e236, hx236_0⟩ := Kd.at_int (Kd.R_reads' HO_16.out).2.2 x27_3 p236 q236
                                                                        obtain rfl : ad233 = ad236 := (by injection e236)
                                                                        replace p236 := eq_true p236
                                                                        replace q236 := eq_true q236
                                                                        have p237 : 0 ≤ ((rd t211 x27_3) : Int) := of_decide_eq_true (by first | (with_reducible assumption) | assumption)
                                                                        have q237 : (rd t211 x27_3) < (l2_0.length : Int) := of_decide_eq_true (by first | (with_reducible assumption) | assumption)
                                                                        obtain ⟨ad237, A237_1, c237_1, e237, hx237_0, hx237_1, hl237_1, hi237_1⟩ := at_T39 HR2_0.out (rd t211 x27_3) p237 q237
                                                                        cases e237
                                                                        replace hx237_0 := (HB.out.cell (World.block_lt_of_cell? w _ hx237_0)).trans hx237_0
                                                                        replace hx237_1 := (HB.out.cell (World.block_lt_of_cell? w _ hx237_1)).trans hx237_1
                                                                        have HR237_1 := Aside0.mk hi237_1
                                                                        have HC237_1 := Aside0.mk hl237_1
                                                                        clear hi237_1 hl237_1
                                                                        replace p237 := eq_true p237
                                                                        replace q237 := eq_true q237
                                                                        have p238 : 0 ≤ (x27_3 : Int) := of_decide_eq_true (by first | (with_reducible assumption) | assumption)
                                                                        have q238 : x27_3 < (t211.length : Int) := of_decide_eq_true (by first | (with_reducible assumption) | assumption)
                                                                        obtain ⟨ad238, e238, hx238_0⟩ := Kd.at_int (Kd.R_reads' HO_16.out).2.2 x27_3 p238 q238
                                                                        obtain rfl : ad233 = ad238 := (by injection e238)
                                                                        replace p238 := eq_true p238
                                                                        replace q238 := eq_true q238
                                                                        have p239 : 0 ≤ ((rd t211 x27_3) : Int) := of_decide_eq_true (by first | (with_reducible assumption) | assumption)
                                                                        have q239 : (rd t211 x27_3) < (l2_0.length : Int) := of_decide_eq_true (by first | (with_reducible assumption) | assumption)
                                                                        obtain ⟨ad239, A239_1, c239_1, e239, hx239_0, hx239_1, hl239_1, hi239_1⟩ := at_T39 HR2_0.out (rd t211 x27_3) p239 q239
                                                                        obtain rfl : ad237 = ad239 := (by injection e239)
                                                                        replace hx239_0 := (HB.out.cell (World.block_lt_of_cell? w _ hx239_0)).trans hx239_0
                                                                        replace hx239_1 := (HB.out.cell (World.block_lt_of_cell? w _ hx239_1)).trans hx239_1
                                                                        have HR239_1 := Aside0.mk hi239_1
                                                                        have HC239_1 := Aside0.mk hl239_1
                                                                        clear hi239_1 hl239_1
                                                                        replace p239 := eq_true p239
                                                                        replace q239 := eq_true q239
                                                                        have ea_ := Option.some.inj (hx237_1.symm.trans hx239_1)
                                                                        injection ea_ with ea_ en_ ec_
                                                                        subst ea_
                                                                        subst ec_
                                                                        clear en_
                                                                        have p240 : 0 ≤ (x30_6 : Int) := of_decide_eq_true (by first | (with_reducible assumption) | assumption)
                                                                        have q240 : x30_6 < (((rd_T39 l2_0 (rd t211 x27_3)).f1).length : Int) := of_decide_eq_true (by first | (with_reducible assumption) | assumption)
                                                                        obtain ⟨ad240, e240, hx240_0⟩ := Kd.at_int HR239_1.out x30_6 p240 q240
                                                                        cases e240
                                                                        replace hx240_0 := (HB.out.cell (World.block_lt_of_cell? w _ hx240_0)).trans hx240_0
                                                                        replace p240 := eq_true p240
                                                                        replace q240 := eq_true q240
                                                                        have p241 : 0 ≤ ((rd ((rd_T39 l2_0 (rd t211 x27_3)).f1) x30_6) : Int) := of_decide_eq_true (by first | (with_reducible assumption) | assumption)
                                                                        have q241 : (rd ((rd_T39 l2_0 (rd t211 x27_3)).f1) x30_6) < (l1.length : Int) := of_decide_eq_true (by first | (with_reducible assumption) | assumption)
                                                                        obtain ⟨ad241, A241_0, c241_0, e241, hx241_0, hl241_0, hi241_0⟩ := at_L1 HR1.out (rd ((rd_T39 l2_0 (rd t211 x27_3)).f1) x30_6) p241 q241
                                                                        obtain rfl : ad234 = ad241 := (by injection e241)
                                                                        replace hx241_0 := (HB.out.cell (World.block_lt_of_cell? w _ hx241_0)).trans hx241_0
                                                                        have HR241_0 := Aside0.mk hi241_0
                                                                        have HC241_0 := Aside0.mk hl241_0
                                                                        clear hi241_0 hl241_0
                                                                        replace p241 := eq_true p241
                                                                        replace q241 := eq_true q241
                                                                        go_wp2_with (first | (go_at_call 14; (with_reducible refine (vector_Key.calls k6 a0 _ _ (rd_L1 l1 (rd ((rd_T39 l2_0 (rd t211 x27_3)).f1) x30_6)) _ _ l3 t242 _ ?side1 ?side2 ?side3 ?side4 A91.out).mono ?_); (case side1 => repeat (first | exact (Kd.C_below HR241_0.out HB.out) | (with_reducible refine Kd.C_alloc ?_ _) | (with_reducible refine Kd.C_drewN ?_ _) | (with_reducible refine Kd.C_drew ?_))); (case side2 => exact HC241_0.out); (case side3 => repeat (first | exact (Kd.C_below HR3.out HB.out) | (with_reducible refine Kd.C_alloc ?_ _) | (with_reducible refine Kd.C_drewN ?_ _) | (with_reducible refine Kd.C_drew ?_))); (case side4 => exact HC3.out); rintro e w104 ⟨rfl, hb⟩; have n0_ := Aside0.mk (Kd.R_below (by (with_reducible repeat (first | apply Kd.R_alloc | apply Kd.R_drewN | apply Kd.R_drew)); exact HO_16.out) hb); have n1_ := Aside0.mk (blk_below (g := gb204) (o := .cells #[.slice (some ad237) l2_0.length c2_0] 25 (0, 0)) (by (with_reducible repeat (first | refine blk_drewN ?_ _ | refine blk_drew ?_ | refine blk_alloc ?_ _)); exact BK204.out) hb); have n2_ := Aside0.mk (below_step (by repeat (first | (with_reducible first | exact HB.out | apply below_alloc | apply pw_below_drewN | apply below_drew1 | refine below_set ?_ GE204.out) | exact HB.out)) hb); clear HO_16; clear BK204; clear HB; have HO_16 := n0_; have BK204 := n1_; have HB := n2_; clear n0_ n1_ n2_; (try clear hb); (try clear hb2); (try clear hk); (try clear hi); have p243 : 0 ≤ ((ji100) : Int) := of_decide_eq_true (by first | (with_reducible assumption) | assumption); have q243 : (ji100) < (t211.length : Int) := of_decide_eq_true (by first | (with_reducible assumption) | assumption); obtain ⟨ad243, e243, hx243_0⟩ := Kd.at_int (Kd.R_reads' HO_16.out).2.2 (ji100) p243 q243; obtain rfl : ad233 = ad243 := (by injection e243); replace p243 := eq_true p243; replace q243 := eq_true q243))
                                                                        repeat (go_quiet (first | (go_at_call 14; (with_reducible refine (vector_Key.calls k6 a0 _ _ (rd_L1 l1 (rd ((rd_T39 l2_0 (rd t211 x27_3)).f1) x30_6)) _ _ l3 t242 _ ?side1 ?side2 ?side3 ?side4 A91.out).mono ?_); (case side1 => repeat (first | exact (Kd.C_below HR241_0.out HB.out) | (with_reducible refine Kd.C_alloc ?_ _) | (with_reducible refine Kd.C_drewN ?_ _) | (with_reducible refine Kd.C_drew ?_))); (case side2 => exact HC241_0.out); (case side3 => repeat (first | exact (Kd.C_below HR3.out HB.out) | (with_reducible refine Kd.C_alloc ?_ _) | (with_reducible refine Kd.C_drewN ?_ _) | (with_reducible refine Kd.C_drew ?_))); (case side4 => exact HC3.out); rintro e w104 ⟨rfl, hb⟩; have n0_ := Aside0.mk (Kd.R_below (by (with_reducible repeat (first | apply Kd.R_alloc | apply Kd.R_drewN | apply Kd.R_drew)); exact HO_16.out) hb); have n1_ := Aside0.mk (blk_below (g := gb204) (o := .cells #[.slice (some ad237) l2_0.length c2_0] 25 (0, 0)) (by (with_reducible repeat (first | refine blk_drewN ?_ _ | refine blk_drew ?_ | refine blk_alloc ?_ _)); exact BK204.out) hb); have n2_ := Aside0.mk (below_step (by repeat (first | (with_reducible first | exact HB.out | apply below_alloc | apply pw_below_drewN | apply below_drew1 | refine below_set ?_ GE204.out) | exact HB.out)) hb); clear HO_16; clear BK204; clear HB; have HO_16 := n0_; have BK204 := n1_; have HB := n2_; clear n0_ n1_ n2_; (try clear hb); (try clear hb2); (try clear hk); (try clear hi); have p243 : 0 ≤ ((ji100) : Int) := of_decide_eq_true (by first | (with_reducible assumption) | assumption); have q243 : (ji100) < (t211.length : Int) := of_decide_eq_true (by first | (with_reducible assumption) | assumption); obtain ⟨ad243, e243, hx243_0⟩ := Kd.at_int (Kd.R_reads' HO_16.out).2.2 (ji100) p243 q243; obtain rfl : ad233 = ad243 := (by injection e243); replace p243 := eq_true p243; replace q243 := eq_true q243)); try go_wp2_with (first | (go_at_call 14; (with_reducible refine (vector_Key.calls k6 a0 _ _ (rd_L1 l1 (rd ((rd_T39 l2_0 (rd t211 x27_3)).f1) x30_6)) _ _ l3 t242 _ ?side1 ?side2 ?side3 ?side4 A91.out).mono ?_); (case side1 => repeat (first | exact (Kd.C_below HR241_0.out HB.out) | (with_reducible refine Kd.C_alloc ?_ _) | (with_reducible refine Kd.C_drewN ?_ _) | (with_reducible refine Kd.C_drew ?_))); (case side2 => exact HC241_0.out); (case side3 => repeat (first | exact (Kd.C_below HR3.out HB.out) | (with_reducible refine Kd.C_alloc ?_ _) | (with_reducible refine Kd.C_drewN ?_ _) | (with_reducible refine Kd.C_drew ?_))); (case side4 => exact HC3.out); rintro e w104 ⟨rfl, hb⟩; have n0_ := Aside0.mk (Kd.R_below (by (with_reducible repeat (first | apply Kd.R_alloc | apply Kd.R_drewN | apply Kd.R_drew)); exact HO_16.out) hb); have n1_ := Aside0.mk (blk_below (g := gb204) (o := .cells #[.slice (some ad237) l2_0.length c2_0] 25 (0, 0)) (by (with_reducible repeat (first | refine blk_drewN ?_ _ | refine blk_drew ?_ | refine blk_alloc ?_ _)); exact BK204.out) hb); have n2_ := Aside0.mk (below_step (by repeat (first | (with_reducible first | exact HB.out | apply below_alloc | apply pw_below_drewN | apply below_drew1 | refine below_set ?_ GE204.out) | exact HB.out)) hb); clear HO_16; clear BK204; clear HB; have HO_16 := n0_; have BK204 := n1_; have HB := n2_; clear n0_ n1_ n2_; (try clear hb); (try clear hb2); (try clear hk); (try clear hi); have p243 : 0 ≤ ((ji100) : Int) := of_decide_eq_true (by first | (with_reducible assumption) | assumption); have q243 : (ji100) < (t211.length : Int) := of_decide_eq_true (by first | (with_reducible assumption) | assumption); obtain ⟨ad243, e243, hx243_0⟩ := Kd.at_int (Kd.R_reads' HO_16.out).2.2 (ji100) p243 q243; obtain rfl : ad233 = ad243 := (by injection e243); replace p243 := eq_true p243; replace q243 := eq_true q243)))
                                                                        go_roundg k6
                                                                        case measure => have := HJ7.out; have := HJ44.out; have := HK3.out; have := HJ67.out; have := HJ72.out; have := HK6.out; omega
                                                                        case rel => exact ⟨(((rd ((rd_T39 l2_0 (rd t211 x27_3)).f1) x30_6) == (rd t211 (ji100)))), (wrap64 (x30_6 + 1)), (by first | rfl | (simp; done) | (simp only [← hji100] <;> (first | rfl | simp)) | (simp [*]; done)), (by first | rfl | (simp; done) | (simp [*]; done)), H', ⟨by have := HJ7.out; have := HJ44.out; have := HK3.out; have := HJ67.out; have := HJ72.out; have := HK6.out; omega⟩, ⟨by (with_reducible repeat (first | apply Kd.R_alloc | apply Kd.R_drewN | apply Kd.R_drew)); exact HO_16.out⟩, ⟨by (with_reducible repeat (first | refine blk_drewN ?_ _ | refine blk_drew ?_ | refine blk_alloc ?_ _)); exact BK204.out⟩, ⟨by repeat (first | (with_reducible first | exact HB.out | apply below_alloc | apply pw_below_drewN | apply below_drew1 | refine below_set ?_ GE204.out) | exact HB.out)⟩⟩
                                                                      · rw [if_neg c102] at H
                                                                        exact absurd H (by simp)
                                                                    · rw [if_neg c101] at H
                                                                      exact absurd H (by simp)
                                                                  · rw [if_neg c99] at H
                                                                    have c99b0 : decide (x27_3 < (wrap64 ((t211.length : Int) - 1))) = false := decide_eq_false c99
                                                                    clear c99
                                                                    have H' := Aside0.mk H
                                                                    clear H
                                                                    have hcz105_0 : wr.cell? ⟨gb204, 0, none⟩ = some (.slice A2_0 l2_0.length c2_0) := (blk_cell BK204.out 0).trans rfl
                                                                    have hfz105_0 := blk_frozen BK204.out 0
                                                                    have p236 : 0 ≤ (x27_3 : Int) := of_decide_eq_true (by first | (with_reducible assumption) | assumption)
                                                                    have q236 : x27_3 < (t211.length : Int) := of_decide_eq_true (by first | (with_reducible assumption) | assumption)
                                                                    obtain ⟨ad236, e236, hx236_0⟩ := Kd.at_int (Kd.R_reads' HO_16.out).2.2 x27_3 p236 q236
                                                                    obtain rfl : ad233 = ad236 := (by injection e236)
                                                                    replace p236 := eq_true p236
                                                                    replace q236 := eq_true q236
                                                                    have p237 : 0 ≤ ((rd t211 x27_3) : Int) := of_decide_eq_true (by first | (with_reducible assumption) | assumption)
                                                                    have q237 : (rd t211 x27_3) < (l2_0.length : Int) := of_decide_eq_true (by first | (with_reducible assumption) | assumption)
                                                                    obtain ⟨ad237, A237_1, c237_1, e237, hx237_0, hx237_1, hl237_1, hi237_1⟩ := at_T39 HR2_0.out (rd t211 x27_3) p237 q237
                                                                    cases e237
                                                                    replace hx237_0 := (HB.out.cell (World.block_lt_of_cell? w _ hx237_0)).trans hx237_0
                                                                    replace hx237_1 := (HB.out.cell (World.block_lt_of_cell? w _ hx237_1)).trans hx237_1
                                                                    have HR237_1 := Aside0.mk hi237_1
                                                                    have HC237_1 := Aside0.mk hl237_1
                                                                    clear hi237_1 hl237_1
                                                                    replace p237 := eq_true p237
                                                                    replace q237 := eq_true q237
                                                                    have p238 : 0 ≤ (x27_3 : Int) := of_decide_eq_true (by first | (with_reducible assumption) | assumption)
                                                                    have q238 : x27_3 < (t211.length : Int) := of_decide_eq_true (by first | (with_reducible assumption) | assumption)
                                                                    obtain ⟨ad238, e238, hx238_0⟩ := Kd.at_int (Kd.R_reads' HO_16.out).2.2 x27_3 p238 q238
                                                                    obtain rfl : ad233 = ad238 := (by injection e238)
                                                                    replace p238 := eq_true p238
                                                                    replace q238 := eq_true q238
                                                                    have p239 : 0 ≤ ((rd t211 x27_3) : Int) := of_decide_eq_true (by first | (with_reducible assumption) | assumption)
                                                                    have q239 : (rd t211 x27_3) < (l2_0.length : Int) := of_decide_eq_true (by first | (with_reducible assumption) | assumption)
                                                                    obtain ⟨ad239, A239_1, c239_1, e239, hx239_0, hx239_1, hl239_1, hi239_1⟩ := at_T39 HR2_0.out (rd t211 x27_3) p239 q239
                                                                    obtain rfl : ad237 = ad239 := (by injection e239)
                                                                    replace hx239_0 := (HB.out.cell (World.block_lt_of_cell? w _ hx239_0)).trans hx239_0
                                                                    replace hx239_1 := (HB.out.cell (World.block_lt_of_cell? w _ hx239_1)).trans hx239_1
                                                                    have HR239_1 := Aside0.mk hi239_1
                                                                    have HC239_1 := Aside0.mk hl239_1
                                                                    clear hi239_1 hl239_1
                                                                    replace p239 := eq_true p239
                                                                    replace q239 := eq_true q239
                                                                    have ea_ := Option.some.inj (hx237_1.symm.trans hx239_1)
                                                                    injection ea_ with ea_ en_ ec_
                                                                    subst ea_
                                                                    subst ec_
                                                                    clear en_
                                                                    have p240 : 0 ≤ (x30_6 : Int) := of_decide_eq_true (by first | (with_reducible assumption) | assumption)
                                                                    have q240 : x30_6 < (((rd_T39 l2_0 (rd t211 x27_3)).f1).length : Int) := of_decide_eq_true (by first | (with_reducible assumption) | assumption)
                                                                    obtain ⟨ad240, e240, hx240_0⟩ := Kd.at_int HR239_1.out x30_6 p240 q240
                                                                    cases e240
                                                                    replace hx240_0 := (HB.out.cell (World.block_lt_of_cell? w _ hx240_0)).trans hx240_0
                                                                    replace p240 := eq_true p240
                                                                    replace q240 := eq_true q240
                                                                    have p241 : 0 ≤ ((rd ((rd_T39 l2_0 (rd t211 x27_3)).f1) x30_6) : Int) := of_decide_eq_true (by first | (with_reducible assumption) | assumption)
                                                                    have q241 : (rd ((rd_T39 l2_0 (rd t211 x27_3)).f1) x30_6) < (l1.length : Int) := of_decide_eq_true (by first | (with_reducible assumption) | assumption)
                                                                    obtain ⟨ad241, A241_0, c241_0, e241, hx241_0, hl241_0, hi241_0⟩ := at_L1 HR1.out (rd ((rd_T39 l2_0 (rd t211 x27_3)).f1) x30_6) p241 q241
                                                                    obtain rfl : ad234 = ad241 := (by injection e241)
                                                                    replace hx241_0 := (HB.out.cell (World.block_lt_of_cell? w _ hx241_0)).trans hx241_0
                                                                    have HR241_0 := Aside0.mk hi241_0
                                                                    have HC241_0 := Aside0.mk hl241_0
                                                                    clear hi241_0 hl241_0
                                                                    replace p241 := eq_true p241
                                                                    replace q241 := eq_true q241
                                                                    go_wp2_with (first | (go_at_call 14; (with_reducible refine (vector_Key.calls k6 a0 _ _ (rd_L1 l1 (rd ((rd_T39 l2_0 (rd t211 x27_3)).f1) x30_6)) _ _ l3 t242 _ ?side1 ?side2 ?side3 ?side4 A91.out).mono ?_); (case side1 => repeat (first | exact (Kd.C_below HR241_0.out HB.out) | (with_reducible refine Kd.C_alloc ?_ _) | (with_reducible refine Kd.C_drewN ?_ _) | (with_reducible refine Kd.C_drew ?_))); (case side2 => exact HC241_0.out); (case side3 => repeat (first | exact (Kd.C_below HR3.out HB.out) | (with_reducible refine Kd.C_alloc ?_ _) | (with_reducible refine Kd.C_drewN ?_ _) | (with_reducible refine Kd.C_drew ?_))); (case side4 => exact HC3.out); rintro e w106 ⟨rfl, hb⟩; have n0_ := Aside0.mk (Kd.R_below (by (with_reducible repeat (first | apply Kd.R_alloc | apply Kd.R_drewN | apply Kd.R_drew)); exact HO_16.out) hb); have n1_ := Aside0.mk (blk_below (g := gb204) (o := .cells #[.slice (some ad237) l2_0.length c2_0] 25 (0, 0)) (by (with_reducible repeat (first | refine blk_drewN ?_ _ | refine blk_drew ?_ | refine blk_alloc ?_ _)); exact BK204.out) hb); have n2_ := Aside0.mk (below_step (by repeat (first | (with_reducible first | exact HB.out | apply below_alloc | apply pw_below_drewN | apply below_drew1 | refine below_set ?_ GE204.out) | exact HB.out)) hb); clear HO_16; clear BK204; clear HB; have HO_16 := n0_; have BK204 := n1_; have HB := n2_; clear n0_ n1_ n2_; (try clear hb); (try clear hb2); (try clear hk); (try clear hi)))
                                                                    repeat (go_quiet (first | (go_at_call 14; (with_reducible refine (vector_Key.calls k6 a0 _ _ (rd_L1 l1 (rd ((rd_T39 l2_0 (rd t211 x27_3)).f1) x30_6)) _ _ l3 t242 _ ?side1 ?side2 ?side3 ?side4 A91.out).mono ?_); (case side1 => repeat (first | exact (Kd.C_below HR241_0.out HB.out) | (with_reducible refine Kd.C_alloc ?_ _) | (with_reducible refine Kd.C_drewN ?_ _) | (with_reducible refine Kd.C_drew ?_))); (case side2 => exact HC241_0.out); (case side3 => repeat (first | exact (Kd.C_below HR3.out HB.out) | (with_reducible refine Kd.C_alloc ?_ _) | (with_reducible refine Kd.C_drewN ?_ _) | (with_reducible refine Kd.C_drew ?_))); (case side4 => exact HC3.out); rintro e w106 ⟨rfl, hb⟩; have n0_ := Aside0.mk (Kd.R_below (by (with_reducible repeat (first | apply Kd.R_alloc | apply Kd.R_drewN | apply Kd.R_drew)); exact HO_16.out) hb); have n1_ := Aside0.mk (blk_below (g := gb204) (o := .cells #[.slice (some ad237) l2_0.length c2_0] 25 (0, 0)) (by (with_reducible repeat (first | refine blk_drewN ?_ _ | refine blk_drew ?_ | refine blk_alloc ?_ _)); exact BK204.out) hb); have n2_ := Aside0.mk (below_step (by repeat (first | (with_reducible first | exact HB.out | apply below_alloc | apply pw_below_drewN | apply below_drew1 | refine below_set ?_ GE204.out) | exact HB.out)) hb); clear HO_16; clear BK204; clear HB; have HO_16 := n0_; have BK204 := n1_; have HB := n2_; clear n0_ n1_ n2_; (try clear hb); (try clear hb2); (try clear hk); (try clear hi))); try go_wp2_with (first | (go_at_call 14; (with_reducible refine (vector_Key.calls k6 a0 _ _ (rd_L1 l1 (rd ((rd_T39 l2_0 (rd t211 x27_3)).f1) x30_6)) _ _ l3 t242 _ ?side1 ?side2 ?side3 ?side4 A91.out).mono ?_); (case side1 => repeat (first | exact (Kd.C_below HR241_0.out HB.out) | (with_reducible refine Kd.C_alloc ?_ _) | (with_reducible refine Kd.C_drewN ?_ _) | (with_reducible refine Kd.C_drew ?_))); (case side2 => exact HC241_0.out); (case side3 => repeat (first | exact (Kd.C_below HR3.out HB.out) | (with_reducible refine Kd.C_alloc ?_ _) | (with_reducible refine Kd.C_drewN ?_ _) | (with_reducible refine Kd.C_drew ?_))); (case side4 => exact HC3.out); rintro e w106 ⟨rfl, hb⟩; have n0_ := Aside0.mk (Kd.R_below (by (with_reducible repeat (first | apply Kd.R_alloc | apply Kd.R_drewN | apply Kd.R_drew)); exact HO_16.out) hb); have n1_ := Aside0.mk (blk_below (g := gb204) (o := .cells #[.slice (some ad237) l2_0.length c2_0] 25 (0, 0)) (by (with_reducible repeat (first | refine blk_drewN ?_ _ | refine blk_drew ?_ | refine blk_alloc ?_ _)); exact BK204.out) hb); have n2_ := Aside0.mk (below_step (by repeat (first | (with_reducible first | exact HB.out | apply below_alloc | apply pw_below_drewN | apply below_drew1 | refine below_set ?_ GE204.out) | exact HB.out)) hb); clear HO_16; clear BK204; clear HB; have HO_16 := n0_; have BK204 := n1_; have HB := n2_; clear n0_ n1_ n2_; (try clear hb); (try clear hb2); (try clear hk); (try clear hi))))
                                                                    go_roundg k6
                                                                    case measure => have := HJ7.out; have := HJ44.out; have := HK3.out; have := HJ67.out; have := HJ72.out; have := HK6.out; omega
                                                                    case rel => exact ⟨(false), (wrap64 (x30_6 + 1)), (by first | rfl | (simp; done) | (simp [*]; done)), (by first | rfl | (simp; done) | (simp [*]; done)), H', ⟨by have := HJ7.out; have := HJ44.out; have := HK3.out; have := HJ67.out; have := HJ72.out; have := HK6.out; omega⟩, ⟨by (with_reducible repeat (first | apply Kd.R_alloc | apply Kd.R_drewN | apply Kd.R_drew)); exact HO_16.out⟩, ⟨by (with_reducible repeat (first | refine blk_drewN ?_ _ | refine blk_drew ?_ | refine blk_alloc ?_ _)); exact BK204.out⟩, ⟨by repeat (first | (with_reducible first | exact HB.out | apply below_alloc | apply pw_below_drewN | apply below_drew1 | refine below_set ?_ GE204.out) | exact HB.out)⟩⟩
                                                            · rw [if_neg c92] at H
                                                              have c92b0 : decide (t242 < t235) = false := decide_eq_false c92
                                                              clear c92
                                                              by_cases c107 : x29_6 = true
                                                              · subst c107
                                                                have H1 : (lawWD.l1 k6 a0 l1 l3 t211 t218 x26_72 x27_3 t235 true (wrap64 (x30_6 + 1)) l2_0) = some r := by rw [if_pos rfl] at H; exact H
                                                                clear H
                                                                have H := H1
                                                                clear H1
                                                                have H' := Aside0.mk H
                                                                clear H
                                                                have hcz108_0 : wr.cell? ⟨gb204, 0, none⟩ = some (.slice A2_0 l2_0.length c2_0) := (blk_cell BK204.out 0).trans rfl
                                                                have hfz108_0 := blk_frozen BK204.out 0
                                                                have p236 : 0 ≤ (x27_3 : Int) := of_decide_eq_true (by first | (with_reducible assumption) | assumption)
                                                                have q236 : x27_3 < (t211.length : Int) := of_decide_eq_true (by first | (with_reducible assumption) | assumption)
                                                                obtain ⟨ad236, e236, hx236_0⟩ := Kd.at_int (Kd.R_reads' HO_16.out).2.2 x27_3 p236 q236
                                                                obtain rfl : ad233 = ad236 := (by injection e236)
                                                                replace p236 := eq_true p236
                                                                replace q236 := eq_true q236
                                                                have p237 : 0 ≤ ((rd t211 x27_3) : Int) := of_decide_eq_true (by first | (with_reducible assumption) | assumption)
                                                                have q237 : (rd t211 x27_3) < (l2_0.length : Int) := of_decide_eq_true (by first | (with_reducible assumption) | assumption)
                                                                obtain ⟨ad237, A237_1, c237_1, e237, hx237_0, hx237_1, hl237_1, hi237_1⟩ := at_T39 HR2_0.out (rd t211 x27_3) p237 q237
                                                                cases e237
                                                                replace hx237_0 := (HB.out.cell (World.block_lt_of_cell? w _ hx237_0)).trans hx237_0
                                                                replace hx237_1 := (HB.out.cell (World.block_lt_of_cell? w _ hx237_1)).trans hx237_1
                                                                have HR237_1 := Aside0.mk hi237_1
                                                                have HC237_1 := Aside0.mk hl237_1
                                                                clear hi237_1 hl237_1
                                                                replace p237 := eq_true p237
                                                                replace q237 := eq_true q237
                                                                have p238 : 0 ≤ (x27_3 : Int) := of_decide_eq_true (by first | (with_reducible assumption) | assumption)
                                                                have q238 : x27_3 < (t211.length : Int) := of_decide_eq_true (by first | (with_reducible assumption) | assumption)
                                                                obtain ⟨ad238, e238, hx238_0⟩ := Kd.at_int (Kd.R_reads' HO_16.out).2.2 x27_3 p238 q238
                                                                obtain rfl : ad233 = ad238 := (by injection e238)
                                                                replace p238 := eq_true p238
                                                                replace q238 := eq_true q238
                                                                have p239 : 0 ≤ ((rd t211 x27_3) : Int) := of_decide_eq_true (by first | (with_reducible assumption) | assumption)
                                                                have q239 : (rd t211 x27_3) < (l2_0.length : Int) := of_decide_eq_true (by first | (with_reducible assumption) | assumption)
                                                                obtain ⟨ad239, A239_1, c239_1, e239, hx239_0, hx239_1, hl239_1, hi239_1⟩ := at_T39 HR2_0.out (rd t211 x27_3) p239 q239
                                                                obtain rfl : ad237 = ad239 := (by injection e239)
                                                                replace hx239_0 := (HB.out.cell (World.block_lt_of_cell? w _ hx239_0)).trans hx239_0
                                                                replace hx239_1 := (HB.out.cell (World.block_lt_of_cell? w _ hx239_1)).trans hx239_1
                                                                have HR239_1 := Aside0.mk hi239_1
                                                                have HC239_1 := Aside0.mk hl239_1
                                                                clear hi239_1 hl239_1
                                                                replace p239 := eq_true p239
                                                                replace q239 := eq_true q239
                                                                have ea_ := Option.some.inj (hx237_1.symm.trans hx239_1)
                                                                injection ea_ with ea_ en_ ec_
                                                                subst ea_
                                                                subst ec_
                                                                clear en_
                                                                have p240 : 0 ≤ (x30_6 : Int) := of_decide_eq_true (by first | (with_reducible assumption) | assumption)
                                                                have q240 : x30_6 < (((rd_T39 l2_0 (rd t211 x27_3)).f1).length : Int) := of_decide_eq_true (by first | (with_reducible assumption) | assumption)
                                                                obtain ⟨ad240, e240, hx240_0⟩ := Kd.at_int HR239_1.out x30_6 p240 q240
                                                                cases e240
                                                                replace hx240_0 := (HB.out.cell (World.block_lt_of_cell? w _ hx240_0)).trans hx240_0
                                                                replace p240 := eq_true p240
                                                                replace q240 := eq_true q240
                                                                have p241 : 0 ≤ ((rd ((rd_T39 l2_0 (rd t211 x27_3)).f1) x30_6) : Int) := of_decide_eq_true (by first | (with_reducible assumption) | assumption)
                                                                have q241 : (rd ((rd_T39 l2_0 (rd t211 x27_3)).f1) x30_6) < (l1.length : Int) := of_decide_eq_true (by first | (with_reducible assumption) | assumption)
                                                                obtain ⟨ad241, A241_0, c241_0, e241, hx241_0, hl241_0, hi241_0⟩ := at_L1 HR1.out (rd ((rd_T39 l2_0 (rd t211 x27_3)).f1) x30_6) p241 q241
                                                                obtain rfl : ad234 = ad241 := (by injection e241)
                                                                replace hx241_0 := (HB.out.cell (World.block_lt_of_cell? w _ hx241_0)).trans hx241_0
                                                                have HR241_0 := Aside0.mk hi241_0
                                                                have HC241_0 := Aside0.mk hl241_0
                                                                clear hi241_0 hl241_0
                                                                replace p241 := eq_true p241
                                                                replace q241 := eq_true q241
                                                                go_wp2_with (first | (go_at_call 14; (with_reducible refine (vector_Key.calls k6 a0 _ _ (rd_L1 l1 (rd ((rd_T39 l2_0 (rd t211 x27_3)).f1) x30_6)) _ _ l3 t242 _ ?side1 ?side2 ?side3 ?side4 A91.out).mono ?_); (case side1 => repeat (first | exact (Kd.C_below HR241_0.out HB.out) | (with_reducible refine Kd.C_alloc ?_ _) | (with_reducible refine Kd.C_drewN ?_ _) | (with_reducible refine Kd.C_drew ?_))); (case side2 => exact HC241_0.out); (case side3 => repeat (first | exact (Kd.C_below HR3.out HB.out) | (with_reducible refine Kd.C_alloc ?_ _) | (with_reducible refine Kd.C_drewN ?_ _) | (with_reducible refine Kd.C_drew ?_))); (case side4 => exact HC3.out); rintro e w109 ⟨rfl, hb⟩; have n0_ := Aside0.mk (Kd.R_below (by (with_reducible repeat (first | apply Kd.R_alloc | apply Kd.R_drewN | apply Kd.R_drew)); exact HO_16.out) hb); have n1_ := Aside0.mk (blk_below (g := gb204) (o := .cells #[.slice (some ad237) l2_0.length c2_0] 25 (0, 0)) (by (with_reducible repeat (first | refine blk_drewN ?_ _ | refine blk_drew ?_ | refine blk_alloc ?_ _)); exact BK204.out) hb); have n2_ := Aside0.mk (below_step (by repeat (first | (with_reducible first | exact HB.out | apply below_alloc | apply pw_below_drewN | apply below_drew1 | refine below_set ?_ GE204.out) | exact HB.out)) hb); clear HO_16; clear BK204; clear HB; have HO_16 := n0_; have BK204 := n1_; have HB := n2_; clear n0_ n1_ n2_; (try clear hb); (try clear hb2); (try clear hk); (try clear hi)))
                                                                repeat (go_quiet (first | (go_at_call 14; (with_reducible refine (vector_Key.calls k6 a0 _ _ (rd_L1 l1 (rd ((rd_T39 l2_0 (rd t211 x27_3)).f1) x30_6)) _ _ l3 t242 _ ?side1 ?side2 ?side3 ?side4 A91.out).mono ?_); (case side1 => repeat (first | exact (Kd.C_below HR241_0.out HB.out) | (with_reducible refine Kd.C_alloc ?_ _) | (with_reducible refine Kd.C_drewN ?_ _) | (with_reducible refine Kd.C_drew ?_))); (case side2 => exact HC241_0.out); (case side3 => repeat (first | exact (Kd.C_below HR3.out HB.out) | (with_reducible refine Kd.C_alloc ?_ _) | (with_reducible refine Kd.C_drewN ?_ _) | (with_reducible refine Kd.C_drew ?_))); (case side4 => exact HC3.out); rintro e w109 ⟨rfl, hb⟩; have n0_ := Aside0.mk (Kd.R_below (by (with_reducible repeat (first | apply Kd.R_alloc | apply Kd.R_drewN | apply Kd.R_drew)); exact HO_16.out) hb); have n1_ := Aside0.mk (blk_below (g := gb204) (o := .cells #[.slice (some ad237) l2_0.length c2_0] 25 (0, 0)) (by (with_reducible repeat (first | refine blk_drewN ?_ _ | refine blk_drew ?_ | refine blk_alloc ?_ _)); exact BK204.out) hb); have n2_ := Aside0.mk (below_step (by repeat (first | (with_reducible first | exact HB.out | apply below_alloc | apply pw_below_drewN | apply below_drew1 | refine below_set ?_ GE204.out) | exact HB.out)) hb); clear HO_16; clear BK204; clear HB; have HO_16 := n0_; have BK204 := n1_; have HB := n2_; clear n0_ n1_ n2_; (try clear hb); (try clear hb2); (try clear hk); (try clear hi))); try go_wp2_with (first | (go_at_call 14; (with_reducible refine (vector_Key.calls k6 a0 _ _ (rd_L1 l1 (rd ((rd_T39 l2_0 (rd t211 x27_3)).f1) x30_6)) _ _ l3 t242 _ ?side1 ?side2 ?side3 ?side4 A91.out).mono ?_); (case side1 => repeat (first | exact (Kd.C_below HR241_0.out HB.out) | (with_reducible refine Kd.C_alloc ?_ _) | (with_reducible refine Kd.C_drewN ?_ _) | (with_reducible refine Kd.C_drew ?_))); (case side2 => exact HC241_0.out); (case side3 => repeat (first | exact (Kd.C_below HR3.out HB.out) | (with_reducible refine Kd.C_alloc ?_ _) | (with_reducible refine Kd.C_drewN ?_ _) | (with_reducible refine Kd.C_drew ?_))); (case side4 => exact HC3.out); rintro e w109 ⟨rfl, hb⟩; have n0_ := Aside0.mk (Kd.R_below (by (with_reducible repeat (first | apply Kd.R_alloc | apply Kd.R_drewN | apply Kd.R_drew)); exact HO_16.out) hb); have n1_ := Aside0.mk (blk_below (g := gb204) (o := .cells #[.slice (some ad237) l2_0.length c2_0] 25 (0, 0)) (by (with_reducible repeat (first | refine blk_drewN ?_ _ | refine blk_drew ?_ | refine blk_alloc ?_ _)); exact BK204.out) hb); have n2_ := Aside0.mk (below_step (by repeat (first | (with_reducible first | exact HB.out | apply below_alloc | apply pw_below_drewN | apply below_drew1 | refine below_set ?_ GE204.out) | exact HB.out)) hb); clear HO_16; clear BK204; clear HB; have HO_16 := n0_; have BK204 := n1_; have HB := n2_; clear n0_ n1_ n2_; (try clear hb); (try clear hb2); (try clear hk); (try clear hi))))
                                                                go_roundg k6
                                                                case measure => have := HJ7.out; have := HJ44.out; have := HK3.out; have := HJ67.out; have := HJ72.out; have := HK6.out; omega
                                                                case rel => exact ⟨(true), (wrap64 (x30_6 + 1)), (by first | rfl | (simp; done) | (simp [*]; done)), (by first | rfl | (simp; done) | (simp [*]; done)), H', ⟨by have := HJ7.out; have := HJ44.out; have := HK3.out; have := HJ67.out; have := HJ72.out; have := HK6.out; omega⟩, ⟨by (with_reducible repeat (first | apply Kd.R_alloc | apply Kd.R_drewN | apply Kd.R_drew)); exact HO_16.out⟩, ⟨by (with_reducible repeat (first | refine blk_drewN ?_ _ | refine blk_drew ?_ | refine blk_alloc ?_ _)); exact BK204.out⟩, ⟨by repeat (first | (with_reducible first | exact HB.out | apply below_alloc | apply pw_below_drewN | apply below_drew1 | refine below_set ?_ GE204.out) | exact HB.out)⟩⟩
                                                              · replace c107 := Bool.eq_false_iff.mpr c107
                                                                subst c107
                                                                have H1 : (lawWD.l1 k6 a0 l1 l3 t211 t218 x26_72 x27_3 t235 false (wrap64 (x30_6 + 1)) l2_0) = some r := by rw [if_neg (show ¬ (false = true) by decide)] at H; exact H
                                                                clear H
                                                                have H := H1
                                                                clear H1
                                                                have H' := Aside0.mk H
                                                                clear H
                                                                have hcz110_0 : wr.cell? ⟨gb204, 0, none⟩ = some (.slice A2_0 l2_0.length c2_0) := (blk_cell BK204.out 0).trans rfl
                                                                have hfz110_0 := blk_frozen BK204.out 0
                                                                have p236 : 0 ≤ (x27_3 : Int) := of_decide_eq_true (by first | (with_reducible assumption) | assumption)
                                                                have q236 : x27_3 < (t211.length : Int) := of_decide_eq_true (by first | (with_reducible assumption) | assumption)
                                                                obtain ⟨ad236, e236, hx236_0⟩ := Kd.at_int (Kd.R_reads' HO_16.out).2.2 x27_3 p236 q236
                                                                obtain rfl : ad233 = ad236 := (by injection e236)
                                                                replace p236 := eq_true p236
                                                                replace q236 := eq_true q236
                                                                have p237 : 0 ≤ ((rd t211 x27_3) : Int) := of_decide_eq_true (by first | (with_reducible assumption) | assumption)
                                                                have q237 : (rd t211 x27_3) < (l2_0.length : Int) := of_decide_eq_true (by first | (with_reducible assumption) | assumption)
                                                                obtain ⟨ad237, A237_1, c237_1, e237, hx237_0, hx237_1, hl237_1, hi237_1⟩ := at_T39 HR2_0.out (rd t211 x27_3) p237 q237
                                                                cases e237
                                                                replace hx237_0 := (HB.out.cell (World.block_lt_of_cell? w _ hx237_0)).trans hx237_0
                                                                replace hx237_1 := (HB.out.cell (World.block_lt_of_cell? w _ hx237_1)).trans hx237_1
                                                                have HR237_1 := Aside0.mk hi237_1
                                                                have HC237_1 := Aside0.mk hl237_1
                                                                clear hi237_1 hl237_1
                                                                replace p237 := eq_true p237
                                                                replace q237 := eq_true q237
                                                                have p238 : 0 ≤ (x27_3 : Int) := of_decide_eq_true (by first | (with_reducible assumption) | assumption)
                                                                have q238 : x27_3 < (t211.length : Int) := of_decide_eq_true (by first | (with_reducible assumption) | assumption)
                                                                obtain ⟨ad238, e238, hx238_0⟩ := Kd.at_int (Kd.R_reads' HO_16.out).2.2 x27_3 p238 q238
                                                                obtain rfl : ad233 = ad238 := (by injection e238)
                                                                replace p238 := eq_true p238
                                                                replace q238 := eq_true q238
                                                                have p239 : 0 ≤ ((rd t211 x27_3) : Int) := of_decide_eq_true (by first | (with_reducible assumption) | assumption)
                                                                have q239 : (rd t211 x27_3) < (l2_0.length : Int) := of_decide_eq_true (by first | (with_reducible assumption) | assumption)
                                                                obtain ⟨ad239, A239_1, c239_1, e239, hx239_0, hx239_1, hl239_1, hi239_1⟩ := at_T39 HR2_0.out (rd t211 x27_3) p239 q239
                                                                obtain rfl : ad237 = ad239 := (by injection e239)
                                                                replace hx239_0 := (HB.out.cell (World.block_lt_of_cell? w _ hx239_0)).trans hx239_0
                                                                replace hx239_1 := (HB.out.cell (World.block_lt_of_cell? w _ hx239_1)).trans hx239_1
                                                                have HR239_1 := Aside0.mk hi239_1
                                                                have HC239_1 := Aside0.mk hl239_1
                                                                clear hi239_1 hl239_1
                                                                replace p239 := eq_true p239
                                                                replace q239 := eq_true q239
                                                                have ea_ := Option.some.inj (hx237_1.symm.trans hx239_1)
                                                                injection ea_ with ea_ en_ ec_
                                                                subst ea_
                                                                subst ec_
                                                                clear en_
                                                                have p240 : 0 ≤ (x30_6 : Int) := of_decide_eq_true (by first | (with_reducible assumption) | assumption)
                                                                have q240 : x30_6 < (((rd_T39 l2_0 (rd t211 x27_3)).f1).length : Int) := of_decide_eq_true (by first | (with_reducible assumption) | assumption)
                                                                obtain ⟨ad240, e240, hx240_0⟩ := Kd.at_int HR239_1.out x30_6 p240 q240
                                                                cases e240
                                                                replace hx240_0 := (HB.out.cell (World.block_lt_of_cell? w _ hx240_0)).trans hx240_0
                                                                replace p240 := eq_true p240
                                                                replace q240 := eq_true q240
                                                                have p241 : 0 ≤ ((rd ((rd_T39 l2_0 (rd t211 x27_3)).f1) x30_6) : Int) := of_decide_eq_true (by first | (with_reducible assumption) | assumption)
                                                                have q241 : (rd ((rd_T39 l2_0 (rd t211 x27_3)).f1) x30_6) < (l1.length : Int) := of_decide_eq_true (by first | (with_reducible assumption) | assumption)
                                                                obtain ⟨ad241, A241_0, c241_0, e241, hx241_0, hl241_0, hi241_0⟩ := at_L1 HR1.out (rd ((rd_T39 l2_0 (rd t211 x27_3)).f1) x30_6) p241 q241
                                                                obtain rfl : ad234 = ad241 := (by injection e241)
                                                                replace hx241_0 := (HB.out.cell (World.block_lt_of_cell? w _ hx241_0)).trans hx241_0
                                                                have HR241_0 := Aside0.mk hi241_0
                                                                have HC241_0 := Aside0.mk hl241_0
                                                                clear hi241_0 hl241_0
                                                                replace p241 := eq_true p241
                                                                replace q241 := eq_true q241
                                                                go_wp2_with (first | (go_at_call 14; (with_reducible refine (vector_Key.calls k6 a0 _ _ (rd_L1 l1 (rd ((rd_T39 l2_0 (rd t211 x27_3)).f1) x30_6)) _ _ l3 t242 _ ?side1 ?side2 ?side3 ?side4 A91.out).mono ?_); (case side1 => repeat (first | exact (Kd.C_below HR241_0.out HB.out) | (with_reducible refine Kd.C_alloc ?_ _) | (with_reducible refine Kd.C_drewN ?_ _) | (with_reducible refine Kd.C_drew ?_))); (case side2 => exact HC241_0.out); (case side3 => repeat (first | exact (Kd.C_below HR3.out HB.out) | (with_reducible refine Kd.C_alloc ?_ _) | (with_reducible refine Kd.C_drewN ?_ _) | (with_reducible refine Kd.C_drew ?_))); (case side4 => exact HC3.out); rintro e w111 ⟨rfl, hb⟩; have n0_ := Aside0.mk (Kd.R_below (by (with_reducible repeat (first | apply Kd.R_alloc | apply Kd.R_drewN | apply Kd.R_drew)); exact HO_16.out) hb); have n1_ := Aside0.mk (blk_below (g := gb204) (o := .cells #[.slice (some ad237) l2_0.length c2_0] 25 (0, 0)) (by (with_reducible repeat (first | refine blk_drewN ?_ _ | refine blk_drew ?_ | refine blk_alloc ?_ _)); exact BK204.out) hb); have n2_ := Aside0.mk (below_step (by repeat (first | (with_reducible first | exact HB.out | apply below_alloc | apply pw_below_drewN | apply below_drew1 | refine below_set ?_ GE204.out) | exact HB.out)) hb); clear HO_16; clear BK204; clear HB; have HO_16 := n0_; have BK204 := n1_; have HB := n2_; clear n0_ n1_ n2_; (try clear hb); (try clear hb2); (try clear hk); (try clear hi)))
                                                                repeat (go_quiet (first | (go_at_call 14; (with_reducible refine (vector_Key.calls k6 a0 _ _ (rd_L1 l1 (rd ((rd_T39 l2_0 (rd t211 x27_3)).f1) x30_6)) _ _ l3 t242 _ ?side1 ?side2 ?side3 ?side4 A91.out).mono ?_); (case side1 => repeat (first | exact (Kd.C_below HR241_0.out HB.out) | (with_reducible refine Kd.C_alloc ?_ _) | (with_reducible refine Kd.C_drewN ?_ _) | (with_reducible refine Kd.C_drew ?_))); (case side2 => exact HC241_0.out); (case side3 => repeat (first | exact (Kd.C_below HR3.out HB.out) | (with_reducible refine Kd.C_alloc ?_ _) | (with_reducible refine Kd.C_drewN ?_ _) | (with_reducible refine Kd.C_drew ?_))); (case side4 => exact HC3.out); rintro e w111 ⟨rfl, hb⟩; have n0_ := Aside0.mk (Kd.R_below (by (with_reducible repeat (first | apply Kd.R_alloc | apply Kd.R_drewN | apply Kd.R_drew)); exact HO_16.out) hb); have n1_ := Aside0.mk (blk_below (g := gb204) (o := .cells #[.slice (some ad237) l2_0.length c2_0] 25 (0, 0)) (by (with_reducible repeat (first | refine blk_drewN ?_ _ | refine blk_drew ?_ | refine blk_alloc ?_ _)); exact BK204.out) hb); have n2_ := Aside0.mk (below_step (by repeat (first | (with_reducible first | exact HB.out | apply below_alloc | apply pw_below_drewN | apply below_drew1 | refine below_set ?_ GE204.out) | exact HB.out)) hb); clear HO_16; clear BK204; clear HB; have HO_16 := n0_; have BK204 := n1_; have HB := n2_; clear n0_ n1_ n2_; (try clear hb); (try clear hb2); (try clear hk); (try clear hi))); try go_wp2_with (first | (go_at_call 14; (with_reducible refine (vector_Key.calls k6 a0 _ _ (rd_L1 l1 (rd ((rd_T39 l2_0 (rd t211 x27_3)).f1) x30_6)) _ _ l3 t242 _ ?side1 ?side2 ?side3 ?side4 A91.out).mono ?_); (case side1 => repeat (first | exact (Kd.C_below HR241_0.out HB.out) | (with_reducible refine Kd.C_alloc ?_ _) | (with_reducible refine Kd.C_drewN ?_ _) | (with_reducible refine Kd.C_drew ?_))); (case side2 => exact HC241_0.out); (case side3 => repeat (first | exact (Kd.C_below HR3.out HB.out) | (with_reducible refine Kd.C_alloc ?_ _) | (with_reducible refine Kd.C_drewN ?_ _) | (with_reducible refine Kd.C_drew ?_))); (case side4 => exact HC3.out); rintro e w111 ⟨rfl, hb⟩; have n0_ := Aside0.mk (Kd.R_below (by (with_reducible repeat (first | apply Kd.R_alloc | apply Kd.R_drewN | apply Kd.R_drew)); exact HO_16.out) hb); have n1_ := Aside0.mk (blk_below (g := gb204) (o := .cells #[.slice (some ad237) l2_0.length c2_0] 25 (0, 0)) (by (with_reducible repeat (first | refine blk_drewN ?_ _ | refine blk_drew ?_ | refine blk_alloc ?_ _)); exact BK204.out) hb); have n2_ := Aside0.mk (below_step (by repeat (first | (with_reducible first | exact HB.out | apply below_alloc | apply pw_below_drewN | apply below_drew1 | refine below_set ?_ GE204.out) | exact HB.out)) hb); clear HO_16; clear BK204; clear HB; have HO_16 := n0_; have BK204 := n1_; have HB := n2_; clear n0_ n1_ n2_; (try clear hb); (try clear hb2); (try clear hk); (try clear hi))))
                                                                go_roundg k6
                                                                case measure => have := HJ7.out; have := HJ44.out; have := HK3.out; have := HJ67.out; have := HJ72.out; have := HK6.out; omega
                                                                case rel => exact ⟨(false), (wrap64 (x30_6 + 1)), (by first | rfl | (simp; done) | (simp [*]; done)), (by first | rfl | (simp; done) | (simp [*]; done)), H', ⟨by have := HJ7.out; have := HJ44.out; have := HK3.out; have := HJ67.out; have := HJ72.out; have := HK6.out; omega⟩, ⟨by (with_reducible repeat (first | apply Kd.R_alloc | apply Kd.R_drewN | apply Kd.R_drew)); exact HO_16.out⟩, ⟨by (with_reducible repeat (first | refine blk_drewN ?_ _ | refine blk_drew ?_ | refine blk_alloc ?_ _)); exact BK204.out⟩, ⟨by repeat (first | (with_reducible first | exact HB.out | apply below_alloc | apply pw_below_drewN | apply below_drew1 | refine below_set ?_ GE204.out) | exact HB.out)⟩⟩
                                                          · rw [if_neg c90] at H
                                                            exact absurd H (by simp)
                                                        · rw [if_neg c89] at H
                                                          exact absurd H (by simp)
                                                      · rw [if_neg c88] at H
                                                        exact absurd H (by simp)
                                                    · rw [if_neg c87] at H
                                                      have c87b0 : decide (x30_6 < (((rd_T39 l2_0 (rd t211 x27_3)).f1).length : Int)) = false := decide_eq_false c87
                                                      clear c87
                                                      by_cases c112 : x27_3 < (wrap64 ((t211.length : Int) - 1))
                                                      · rw [if_pos c112] at H
                                                        have c112b0 : decide (x27_3 < (wrap64 ((t211.length : Int) - 1))) = true := decide_eq_true c112
                                                        clear c112
                                                        by_cases c113 : x29_6 = true
                                                        · subst c113
                                                          have H1 : (lawWD.l0 k6 a0 l1 l3 t211 t218 x26_72 (wrap64 (x27_3 + 1)) l2_0) = some r := by rw [if_pos rfl] at H; exact H
                                                          clear H
                                                          have H := H1
                                                          clear H1
                                                          have H' := Aside0.mk H
                                                          clear H
                                                          have hcz114_0 : wr.cell? ⟨gb204, 0, none⟩ = some (.slice A2_0 l2_0.length c2_0) := (blk_cell BK204.out 0).trans rfl
                                                          have hfz114_0 := blk_frozen BK204.out 0
                                                          have p236 : 0 ≤ (x27_3 : Int) := of_decide_eq_true (by first | (with_reducible assumption) | assumption)
                                                          have q236 : x27_3 < (t211.length : Int) := of_decide_eq_true (by first | (with_reducible assumption) | assumption)
                                                          obtain ⟨ad236, e236, hx236_0⟩ := Kd.at_int (Kd.R_reads' HO_16.out).2.2 x27_3 p236 q236
                                                          obtain rfl : ad233 = ad236 := (by injection e236)
                                                          replace p236 := eq_true p236
                                                          replace q236 := eq_true q236
                                                          have p237 : 0 ≤ ((rd t211 x27_3) : Int) := of_decide_eq_true (by first | (with_reducible assumption) | assumption)
                                                          have q237 : (rd t211 x27_3) < (l2_0.length : Int) := of_decide_eq_true (by first | (with_reducible assumption) | assumption)
                                                          obtain ⟨ad237, A237_1, c237_1, e237, hx237_0, hx237_1, hl237_1, hi237_1⟩ := at_T39 HR2_0.out (rd t211 x27_3) p237 q237
                                                          cases e237
                                                          replace hx237_0 := (HB.out.cell (World.block_lt_of_cell? w _ hx237_0)).trans hx237_0
                                                          replace hx237_1 := (HB.out.cell (World.block_lt_of_cell? w _ hx237_1)).trans hx237_1
                                                          have HR237_1 := Aside0.mk hi237_1
                                                          have HC237_1 := Aside0.mk hl237_1
                                                          clear hi237_1 hl237_1
                                                          replace p237 := eq_true p237
                                                          replace q237 := eq_true q237
                                                          go_wp2
                                                          repeat (go_quiet (fail); try go_wp2)
                                                          go_roundg k6
                                                          case measure => have := HJ7.out; have := HJ44.out; have := HK3.out; have := HJ67.out; have := HJ72.out; have := HK6.out; omega
                                                          case rel => exact ⟨(x26_72), (wrap64 (x27_3 + 1)), (by first | rfl | (simp; done) | (simp [*]; done)), (by first | rfl | (simp; done) | (simp [*]; done)), H', ⟨by have := HJ7.out; have := HJ44.out; have := HK3.out; have := HJ67.out; have := HJ72.out; have := HK6.out; omega⟩, ⟨by (with_reducible repeat (first | apply Kd.R_alloc | apply Kd.R_drewN | apply Kd.R_drew)); exact HO_16.out⟩, ⟨by (with_reducible repeat (first | refine blk_drewN ?_ _ | refine blk_drew ?_ | refine blk_alloc ?_ _)); exact BK204.out⟩, ⟨by repeat (first | (with_reducible first | exact HB.out | apply below_alloc | apply pw_below_drewN | apply below_drew1 | refine below_set ?_ GE204.out) | exact HB.out)⟩⟩
                                                        · replace c113 := Bool.eq_false_iff.mpr c113
                                                          subst c113
                                                          have H1 : (some false) = some r := by rw [if_neg (show ¬ (false = true) by decide)] at H; exact H
                                                          clear H
                                                          have H := H1
                                                          clear H1
                                                          obtain rfl := Option.some.inj H
                                                          have hcz115_0 : wr.cell? ⟨gb204, 0, none⟩ = some (.slice A2_0 l2_0.length c2_0) := (blk_cell BK204.out 0).trans rfl
                                                          have hfz115_0 := blk_frozen BK204.out 0
                                                          have p236 : 0 ≤ (x27_3 : Int) := of_decide_eq_true (by first | (with_reducible assumption) | assumption)
                                                          have q236 : x27_3 < (t211.length : Int) := of_decide_eq_true (by first | (with_reducible assumption) | assumption)
                                                          obtain ⟨ad236, e236, hx236_0⟩ := Kd.at_int (Kd.R_reads' HO_16.out).2.2 x27_3 p236 q236
                                                          obtain rfl : ad233 = ad236 := (by injection e236)
                                                          replace p236 := eq_true p236
                                                          replace q236 := eq_true q236
                                                          have p237 : 0 ≤ ((rd t211 x27_3) : Int) := of_decide_eq_true (by first | (with_reducible assumption) | assumption)
                                                          have q237 : (rd t211 x27_3) < (l2_0.length : Int) := of_decide_eq_true (by first | (with_reducible assumption) | assumption)
                                                          obtain ⟨ad237, A237_1, c237_1, e237, hx237_0, hx237_1, hl237_1, hi237_1⟩ := at_T39 HR2_0.out (rd t211 x27_3) p237 q237
                                                          cases e237
                                                          replace hx237_0 := (HB.out.cell (World.block_lt_of_cell? w _ hx237_0)).trans hx237_0
                                                          replace hx237_1 := (HB.out.cell (World.block_lt_of_cell? w _ hx237_1)).trans hx237_1
                                                          have HR237_1 := Aside0.mk hi237_1
                                                          have HC237_1 := Aside0.mk hl237_1
                                                          clear hi237_1 hl237_1
                                                          replace p237 := eq_true p237
                                                          replace q237 := eq_true q237
                                                          go_wp2
                                                          repeat (go_quiet (fail); try go_wp2)
                                                          go_ret
                                                          exact ⟨by first | rfl | (simp [errW_none, errW_some] <;> rfl) | (simp [*, errW_none, errW_some] <;> rfl), by repeat (first | (with_reducible first | exact HB.out | apply below_alloc | apply pw_below_drewN | apply below_drew1 | refine below_set ?_ GE204.out) | exact HB.out)⟩
                                                      · rw [if_neg c112] at H
                                                        have c112b0 : decide (x27_3 < (wrap64 ((t211.length : Int) - 1))) = false := decide_eq_false c112
                                                        clear c112
                                                        have H' := Aside0.mk H
                                                        clear H
                                                        have hcz116_0 : wr.cell? ⟨gb204, 0, none⟩ = some (.slice A2_0 l2_0.length c2_0) := (blk_cell BK204.out 0).trans rfl
                                                        have hfz116_0 := blk_frozen BK204.out 0
                                                        have p236 : 0 ≤ (x27_3 : Int) := of_decide_eq_true (by first | (with_reducible assumption) | assumption)
                                                        have q236 : x27_3 < (t211.length : Int) := of_decide_eq_true (by first | (with_reducible assumption) | assumption)
                                                        obtain ⟨ad236, e236, hx236_0⟩ := Kd.at_int (Kd.R_reads' HO_16.out).2.2 x27_3 p236 q236
                                                        obtain rfl : ad233 = ad236 := (by injection e236)
                                                        replace p236 := eq_true p236
                                                        replace q236 := eq_true q236
                                                        have p237 : 0 ≤ ((rd t211 x27_3) : Int) := of_decide_eq_true (by first | (with_reducible assumption) | assumption)
                                                        have q237 : (rd t211 x27_3) < (l2_0.length : Int) := of_decide_eq_true (by first | (with_reducible assumption) | assumption)
                                                        obtain ⟨ad237, A237_1, c237_1, e237, hx237_0, hx237_1, hl237_1, hi237_1⟩ := at_T39 HR2_0.out (rd t211 x27_3) p237 q237
                                                        cases e237
                                                        replace hx237_0 := (HB.out.cell (World.block_lt_of_cell? w _ hx237_0)).trans hx237_0
                                                        replace hx237_1 := (HB.out.cell (World.block_lt_of_cell? w _ hx237_1)).trans hx237_1
                                                        have HR237_1 := Aside0.mk hi237_1
                                                        have HC237_1 := Aside0.mk hl237_1
                                                        clear hi237_1 hl237_1
                                                        replace p237 := eq_true p237
                                                        replace q237 := eq_true q237
                                                        go_wp2
                                                        repeat (go_quiet (fail); try go_wp2)
                                                        go_roundg k6
                                                        case measure => have := HJ7.out; have := HJ44.out; have := HK3.out; have := HJ67.out; have := HJ72.out; have := HK6.out; omega
                                                        case rel => exact ⟨(x26_72), (wrap64 (x27_3 + 1)), (by first | rfl | (simp; done) | (simp [*]; done)), (by first | rfl | (simp; done) | (simp [*]; done)), H', ⟨by have := HJ7.out; have := HJ44.out; have := HK3.out; have := HJ67.out; have := HJ72.out; have := HK6.out; omega⟩, ⟨by (with_reducible repeat (first | apply Kd.R_alloc | apply Kd.R_drewN | apply Kd.R_drew)); exact HO_16.out⟩, ⟨by (with_reducible repeat (first | refine blk_drewN ?_ _ | refine blk_drew ?_ | refine blk_alloc ?_ _)); exact BK204.out⟩, ⟨by repeat (first | (with_reducible first | exact HB.out | apply below_alloc | apply pw_below_drewN | apply below_drew1 | refine below_set ?_ GE204.out) | exact HB.out)⟩⟩
                                                  · rw [if_neg c86] at H
                                                    exact absurd H (by simp)
                                                · rw [if_neg c85] at H
                                                  exact absurd H (by simp)
                                              · rw [if_neg c84] at H
                                                exact absurd H (by simp)
                                            · rw [if_neg c83] at H
                                              exact absurd H (by simp)
                                      · rw [if_neg c80] at H
                                        exact absurd H (by simp)
                                    · rw [if_neg c79] at H
                                      exact absurd H (by simp)
                                  · rw [if_neg c78] at H
                                    exact absurd H (by simp)
                                · rw [if_neg c77] at H
                                  exact absurd H (by simp)
                    · rw [if_neg c67] at H
                      have c67b0 : decide (x27_3 < (t211.length : Int)) = false := decide_eq_false c67
                      clear c67
                      replace H := Option.bind_eq_some_iff.mp H
                      obtain ⟨t229, A1170, H⟩ := H
                      replace H : (if t229 = true then (some x26_3) else (some false)) = some r := H
                      have A117 := Aside0.mk A1170
                      clear A1170
                      by_cases c118 : t229 = true
                      · subst c118
                        have H1 : (some x26_3) = some r := by rw [if_pos rfl] at H; exact H
                        clear H
                        have H := H1
                        clear H1
                        obtain rfl := Option.some.inj H
                        obtain ⟨Ao119, co119, eo119⟩ := Kd.R_slice HO_16.out
                        subst eo119
                        go_wp2_with (first | (go_at_call 10; (with_reducible refine (antiquarylaw27_sanity.calls  true _ A117.out).mono ?_); rintro e w120 ⟨rfl, hb⟩; have n0_ := Aside0.mk (Kd.R_below (by (with_reducible repeat (first | apply Kd.R_alloc | apply Kd.R_drewN | apply Kd.R_drew)); exact HO_16.out) hb); have n1_ := Aside0.mk (blk_below (g := gb204) (o := .cells #[.slice A2_0 l2_0.length c2_0] 25 (0, 0)) (by (with_reducible repeat (first | refine blk_drewN ?_ _ | refine blk_drew ?_ | refine blk_alloc ?_ _)); exact BK204.out) hb); have n2_ := Aside0.mk (below_step (by repeat (first | (with_reducible first | exact HB.out | apply below_alloc | apply pw_below_drewN | apply below_drew1 | refine below_set ?_ GE204.out) | exact HB.out)) hb); clear HO_16; clear BK204; clear HB; have HO_16 := n0_; have BK204 := n1_; have HB := n2_; clear n0_ n1_ n2_; (try clear hb); (try clear hb2); (try clear hk); (try clear hi)))
                        repeat (go_quiet (first | (go_at_call 10; (with_reducible refine (antiquarylaw27_sanity.calls  true _ A117.out).mono ?_); rintro e w120 ⟨rfl, hb⟩; have n0_ := Aside0.mk (Kd.R_below (by (with_reducible repeat (first | apply Kd.R_alloc | apply Kd.R_drewN | apply Kd.R_drew)); exact HO_16.out) hb); have n1_ := Aside0.mk (blk_below (g := gb204) (o := .cells #[.slice A2_0 l2_0.length c2_0] 25 (0, 0)) (by (with_reducible repeat (first | refine blk_drewN ?_ _ | refine blk_drew ?_ | refine blk_alloc ?_ _)); exact BK204.out) hb); have n2_ := Aside0.mk (below_step (by repeat (first | (with_reducible first | exact HB.out | apply below_alloc | apply pw_below_drewN | apply below_drew1 | refine below_set ?_ GE204.out) | exact HB.out)) hb); clear HO_16; clear BK204; clear HB; have HO_16 := n0_; have BK204 := n1_; have HB := n2_; clear n0_ n1_ n2_; (try clear hb); (try clear hb2); (try clear hk); (try clear hi))); try go_wp2_with (first | (go_at_call 10; (with_reducible refine (antiquarylaw27_sanity.calls  true _ A117.out).mono ?_); rintro e w120 ⟨rfl, hb⟩; have n0_ := Aside0.mk (Kd.R_below (by (with_reducible repeat (first | apply Kd.R_alloc | apply Kd.R_drewN | apply Kd.R_drew)); exact HO_16.out) hb); have n1_ := Aside0.mk (blk_below (g := gb204) (o := .cells #[.slice A2_0 l2_0.length c2_0] 25 (0, 0)) (by (with_reducible repeat (first | refine blk_drewN ?_ _ | refine blk_drew ?_ | refine blk_alloc ?_ _)); exact BK204.out) hb); have n2_ := Aside0.mk (below_step (by repeat (first | (with_reducible first | exact HB.out | apply below_alloc | apply pw_below_drewN | apply below_drew1 | refine below_set ?_ GE204.out) | exact HB.out)) hb); clear HO_16; clear BK204; clear HB; have HO_16 := n0_; have BK204 := n1_; have HB := n2_; clear n0_ n1_ n2_; (try clear hb); (try clear hb2); (try clear hk); (try clear hi))))
                        go_ret
                        exact ⟨by first | rfl | (simp [errW_none, errW_some] <;> rfl) | (simp [*, errW_none, errW_some] <;> rfl), by repeat (first | (with_reducible first | exact HB.out | apply below_alloc | apply pw_below_drewN | apply below_drew1 | refine below_set ?_ GE204.out) | exact HB.out)⟩
                      · replace c118 := Bool.eq_false_iff.mpr c118
                        subst c118
                        have H1 : (some false) = some r := by rw [if_neg (show ¬ (false = true) by decide)] at H; exact H
                        clear H
                        have H := H1
                        clear H1
                        obtain rfl := Option.some.inj H
                        obtain ⟨Ao121, co121, eo121⟩ := Kd.R_slice HO_16.out
                        subst eo121
                        go_wp2_with (first | (go_at_call 10; (with_reducible refine (antiquarylaw27_sanity.calls  false _ A117.out).mono ?_); rintro e w122 ⟨rfl, hb⟩; have n0_ := Aside0.mk (Kd.R_below (by (with_reducible repeat (first | apply Kd.R_alloc | apply Kd.R_drewN | apply Kd.R_drew)); exact HO_16.out) hb); have n1_ := Aside0.mk (blk_below (g := gb204) (o := .cells #[.slice A2_0 l2_0.length c2_0] 25 (0, 0)) (by (with_reducible repeat (first | refine blk_drewN ?_ _ | refine blk_drew ?_ | refine blk_alloc ?_ _)); exact BK204.out) hb); have n2_ := Aside0.mk (below_step (by repeat (first | (with_reducible first | exact HB.out | apply below_alloc | apply pw_below_drewN | apply below_drew1 | refine below_set ?_ GE204.out) | exact HB.out)) hb); clear HO_16; clear BK204; clear HB; have HO_16 := n0_; have BK204 := n1_; have HB := n2_; clear n0_ n1_ n2_; (try clear hb); (try clear hb2); (try clear hk); (try clear hi)))
                        repeat (go_quiet (first | (go_at_call 10; (with_reducible refine (antiquarylaw27_sanity.calls  false _ A117.out).mono ?_); rintro e w122 ⟨rfl, hb⟩; have n0_ := Aside0.mk (Kd.R_below (by (with_reducible repeat (first | apply Kd.R_alloc | apply Kd.R_drewN | apply Kd.R_drew)); exact HO_16.out) hb); have n1_ := Aside0.mk (blk_below (g := gb204) (o := .cells #[.slice A2_0 l2_0.length c2_0] 25 (0, 0)) (by (with_reducible repeat (first | refine blk_drewN ?_ _ | refine blk_drew ?_ | refine blk_alloc ?_ _)); exact BK204.out) hb); have n2_ := Aside0.mk (below_step (by repeat (first | (with_reducible first | exact HB.out | apply below_alloc | apply pw_below_drewN | apply below_drew1 | refine below_set ?_ GE204.out) | exact HB.out)) hb); clear HO_16; clear BK204; clear HB; have HO_16 := n0_; have BK204 := n1_; have HB := n2_; clear n0_ n1_ n2_; (try clear hb); (try clear hb2); (try clear hk); (try clear hi))); try go_wp2_with (first | (go_at_call 10; (with_reducible refine (antiquarylaw27_sanity.calls  false _ A117.out).mono ?_); rintro e w122 ⟨rfl, hb⟩; have n0_ := Aside0.mk (Kd.R_below (by (with_reducible repeat (first | apply Kd.R_alloc | apply Kd.R_drewN | apply Kd.R_drew)); exact HO_16.out) hb); have n1_ := Aside0.mk (blk_below (g := gb204) (o := .cells #[.slice A2_0 l2_0.length c2_0] 25 (0, 0)) (by (with_reducible repeat (first | refine blk_drewN ?_ _ | refine blk_drew ?_ | refine blk_alloc ?_ _)); exact BK204.out) hb); have n2_ := Aside0.mk (below_step (by repeat (first | (with_reducible first | exact HB.out | apply below_alloc | apply pw_below_drewN | apply below_drew1 | refine below_set ?_ GE204.out) | exact HB.out)) hb); clear HO_16; clear BK204; clear HB; have HO_16 := n0_; have BK204 := n1_; have HB := n2_; clear n0_ n1_ n2_; (try clear hb); (try clear hb2); (try clear hk); (try clear hi))))
                        go_ret
                        exact ⟨by first | rfl | (simp [errW_none, errW_some] <;> rfl) | (simp [*, errW_none, errW_some] <;> rfl), by repeat (first | (with_reducible first | exact HB.out | apply below_alloc | apply pw_below_drewN | apply below_drew1 | refine below_set ?_ GE204.out) | exact HB.out)⟩

end Go.Proofs.Ythbkomkgciemiaa.PKM
