/- Texts of this claim, merged: part 11. -/
import Derived.Test.YthbkomkgciemiaaGreatCB3
import Derived.Test.YthbkomkgciemiaaGreatCB5
import Derived.Test.YthbkomkgciemiaaGreatCB6
import Derived.Test.YthbkomkgciemiaaGreatCB9
import Derived.Test.YthbkomkgciemiaaGreatCB10
import Derived.Test.YthbkomkgciemiaaGreatCB8
import Derived.Test.YthbkomkgciemiaaGreatCB7
-- by hp.py over the kit's print (stubs proved by hand)
namespace Go.Proofs.YthbkomkgciemiaaGreat.PKB
open Go.RowKit Go.Proofs.YthbkomkgciemiaaGreatW.PrintWords Go.Proofs.YthbkomkgciemiaaGreatW.PrintLast Go.Proofs.YthbkomkgciemiaaGreatW.PrintMore
attribute [local go_sem] max2_int min2_int max_two min_two max_three min_three max_four min_four   -- for this text's walks alone
set_option linter.unusedVariables false
set_option linter.unusedSimpArgs false

-- STAGE 0 antiquaryref27_Build
/-! ### antiquaryref27_Build: function 21 -/
mutual
def antiquaryref27_Build.j0 : Nat → Int → List (List Int) → Int → Bool → Option ((List (S61)) × Int)
  | 0, _, _, _, _ => none
  | k + 1, x0, x1, x2, x27 => if x27 = true then (some (([] : List (S61)), 1)) else (antiquaryref27_Build.l0 k x0 x1 x2 0 ([] : List (S61)))
def antiquaryref27_Build.l0 : Nat → Int → List (List Int) → Int → Int → List (S61) → Option ((List (S61)) × Int)
  | 0, _, _, _, _, _ => none
  | k + 1, x0, x1, x2, x8, x152000 => if x8 < (x1.length : Int) then (antiquaryref27_Build.l1 k x0 x1 x2 x8 134217728 0 x152000) else (some (x152000, 0))
def antiquaryref27_Build.l1 : Nat → Int → List (List Int) → Int → Int → Int → Int → List (S61) → Option ((List (S61)) × Int)
  | 0, _, _, _, _, _, _, _ => none
  | k + 1, x0, x1, x2, x8, x9, x10, x152000 => if x10 < (x1.length : Int) then (if 0 ≤ x8 then (if x8 < (x1.length : Int) then (if 0 ≤ x10 then ((antiquaryref04_Key.f k x0 (rd_L1 x1 x8) (rd_L1 x1 x10)).bind fun t161 => (if t161 < x9 then ((antiquaryref27_around.f k x0 x1 (rd_L1 x1 x8) t161).bind fun t163 => (if (t163.length : Int) ≥ (mn x2 (x1.length : Int)) then (antiquaryref27_Build.l1 k x0 x1 x2 x8 t161 (wrap64 (x10 + 1)) x152000) else (antiquaryref27_Build.l1 k x0 x1 x2 x8 x9 (wrap64 (x10 + 1)) x152000))) else (antiquaryref27_Build.l1 k x0 x1 x2 x8 x9 (wrap64 (x10 + 1)) x152000))) else (none)) else (none)) else (none)) else (if 0 ≤ x8 then (if x8 < (x1.length : Int) then ((antiquaryref27_around.f k x0 x1 (rd_L1 x1 x8) x9).bind fun t153 => (if x152000.length < 4398046511104 then (antiquaryref27_Build.l0 k x0 x1 x2 (wrap64 (x8 + 1)) (x152000 ++ [(⟨x9, t153⟩ : S61)])) else (none))) else (none)) else (none))
end
def antiquaryref27_Build.f (k : Nat) (a0 : Int) (l1 : List (List Int)) (a2 : Int) : Option ((List (S61)) × Int) := (antiquaryref09_Metric.f a0).bind fun t149 => (if t149 = true then ((antiquaryref09_Fit.f k l1).bind fun t150 => (if t150 = true then (if a2 < 1 then (antiquaryref27_Build.j0 k a0 l1 a2 true) else (antiquaryref27_Build.j0 k a0 l1 a2 (decide (a2 > 4096)))) else (antiquaryref27_Build.j0 k a0 l1 a2 true))) else (antiquaryref27_Build.j0 k a0 l1 a2 true))
theorem antiquaryref27_Build.mono_l : ∀ k, (∀ y0 y1 y2 y3, LeO (antiquaryref27_Build.j0 k y0 y1 y2 y3) (antiquaryref27_Build.j0 (k + 1) y0 y1 y2 y3)) ∧ (∀ y0 y1 y2 y3 y4, LeO (antiquaryref27_Build.l0 k y0 y1 y2 y3 y4) (antiquaryref27_Build.l0 (k + 1) y0 y1 y2 y3 y4)) ∧ (∀ y0 y1 y2 y3 y4 y5 y6, LeO (antiquaryref27_Build.l1 k y0 y1 y2 y3 y4 y5 y6) (antiquaryref27_Build.l1 (k + 1) y0 y1 y2 y3 y4 y5 y6))
  | 0 => ⟨fun _ _ _ _ r h => by simp [antiquaryref27_Build.j0] at h, fun _ _ _ _ _ r h => by simp [antiquaryref27_Build.l0] at h, fun _ _ _ _ _ _ _ r h => by simp [antiquaryref27_Build.l1] at h⟩
  | k + 1 => by
    obtain ⟨ih0, ih1, ih2⟩ := antiquaryref27_Build.mono_l k
    refine ⟨?_, ?_, ?_⟩
    · intro y0 y1 y2 y3
      unfold antiquaryref27_Build.j0
      repeat' first
      | (with_reducible exact ih0 _ _ _ _)
      | (with_reducible exact ih1 _ _ _ _ _)
      | (with_reducible exact ih2 _ _ _ _ _ _ _)
      | (with_reducible exact antiquaryref04_Key.mono _ _ _ _)
      | (with_reducible exact antiquaryref09_Fit.mono _ _)
      | (with_reducible exact antiquaryref27_around.mono _ _ _ _ _)
      | (with_reducible exact LeO.refl _)
      | (with_reducible exact LeO.none _)
      | (with_reducible refine LeO.ite ?_ ?_)
      | (with_reducible refine LeO.bind ?_ (fun _ => ?_))
      | exact ih0 _ _ _ _
      | exact ih1 _ _ _ _ _
      | exact ih2 _ _ _ _ _ _ _
      | exact antiquaryref04_Key.mono _ _ _ _
      | exact antiquaryref09_Fit.mono _ _
      | exact antiquaryref27_around.mono _ _ _ _ _
      | exact LeO.none _
      | refine LeO.ite ?_ ?_
      | refine LeO.bind ?_ (fun _ => ?_)
    · intro y0 y1 y2 y3 y4
      unfold antiquaryref27_Build.l0
      repeat' first
      | (with_reducible exact ih0 _ _ _ _)
      | (with_reducible exact ih1 _ _ _ _ _)
      | (with_reducible exact ih2 _ _ _ _ _ _ _)
      | (with_reducible exact antiquaryref04_Key.mono _ _ _ _)
      | (with_reducible exact antiquaryref09_Fit.mono _ _)
      | (with_reducible exact antiquaryref27_around.mono _ _ _ _ _)
      | (with_reducible exact LeO.refl _)
      | (with_reducible exact LeO.none _)
      | (with_reducible refine LeO.ite ?_ ?_)
      | (with_reducible refine LeO.bind ?_ (fun _ => ?_))
      | exact ih0 _ _ _ _
      | exact ih1 _ _ _ _ _
      | exact ih2 _ _ _ _ _ _ _
      | exact antiquaryref04_Key.mono _ _ _ _
      | exact antiquaryref09_Fit.mono _ _
      | exact antiquaryref27_around.mono _ _ _ _ _
      | exact LeO.none _
      | refine LeO.ite ?_ ?_
      | refine LeO.bind ?_ (fun _ => ?_)
    · intro y0 y1 y2 y3 y4 y5 y6
      unfold antiquaryref27_Build.l1
      repeat' first
      | (with_reducible exact ih0 _ _ _ _)
      | (with_reducible exact ih1 _ _ _ _ _)
      | (with_reducible exact ih2 _ _ _ _ _ _ _)
      | (with_reducible exact antiquaryref04_Key.mono _ _ _ _)
      | (with_reducible exact antiquaryref09_Fit.mono _ _)
      | (with_reducible exact antiquaryref27_around.mono _ _ _ _ _)
      | (with_reducible exact LeO.refl _)
      | (with_reducible exact LeO.none _)
      | (with_reducible refine LeO.ite ?_ ?_)
      | (with_reducible refine LeO.bind ?_ (fun _ => ?_))
      | exact ih0 _ _ _ _
      | exact ih1 _ _ _ _ _
      | exact ih2 _ _ _ _ _ _ _
      | exact antiquaryref04_Key.mono _ _ _ _
      | exact antiquaryref09_Fit.mono _ _
      | exact antiquaryref27_around.mono _ _ _ _ _
      | exact LeO.none _
      | refine LeO.ite ?_ ?_
      | refine LeO.bind ?_ (fun _ => ?_)
theorem antiquaryref27_Build.mono : ∀ a0 a1 a2 k, LeO (antiquaryref27_Build.f k a0 a1 a2) (antiquaryref27_Build.f (k + 1) a0 a1 a2) := by
  intro a0 a1 a2 k
  obtain ⟨ih0, ih1, ih2⟩ := antiquaryref27_Build.mono_l k
  unfold antiquaryref27_Build.f
  repeat' first
      | (with_reducible exact ih0 _ _ _ _)
      | (with_reducible exact ih1 _ _ _ _ _)
      | (with_reducible exact ih2 _ _ _ _ _ _ _)
      | (with_reducible exact antiquaryref04_Key.mono _ _ _ _)
      | (with_reducible exact antiquaryref09_Fit.mono _ _)
      | (with_reducible exact antiquaryref27_around.mono _ _ _ _ _)
      | (with_reducible exact LeO.refl _)
      | (with_reducible exact LeO.none _)
      | (with_reducible refine LeO.ite ?_ ?_)
      | (with_reducible refine LeO.bind ?_ (fun _ => ?_))
      | exact ih0 _ _ _ _
      | exact ih1 _ _ _ _ _
      | exact ih2 _ _ _ _ _ _ _
      | exact antiquaryref04_Key.mono _ _ _ _
      | exact antiquaryref09_Fit.mono _ _
      | exact antiquaryref27_around.mono _ _ _ _ _
      | exact LeO.none _
      | refine LeO.ite ?_ ?_
      | refine LeO.bind ?_ (fun _ => ?_)
def antiquaryref27_Build.T11 : Bool × List (List Nat × List Nat) := (true, [([], []), ([], []), ([], []), ([1, 2], [1, 2]), ([3], [3]), ([], []), ([], []), ([5, 6], [5, 6]), ([7], [7]), ([0, 4, 8], [0, 4, 8]), ([9, 9, 0, 1, 2, 3, 4, 5, 6, 7, 8, 9], [9])])
def antiquaryref27_Build.B11 : List Nat := [0, 0, 0, 6, 14, 0, 0, 96, 224, 511, 1023]
theorem antiquaryref27_Build.tab11 : rtab .any (opsOf Tryz.f21 11) = antiquaryref27_Build.T11 := by kernel_rfl
theorem antiquaryref27_Build.bits11 : waitsOk antiquaryref27_Build.T11.2 antiquaryref27_Build.B11 = true := by kernel_rfl
def antiquaryref27_Build.T14 : Bool × List (List Nat × List Nat) := (true, [([], []), ([0], [0]), ([], []), ([], []), ([], []), ([], []), ([], []), ([5, 6], [5, 6]), ([7], [7]), ([], []), ([3, 4, 8, 9], [3, 4, 8, 9]), ([2, 10], [2, 10]), ([11], [11]), ([1, 12, 10], [1, 12]), ([0, 1, 2, 3, 4, 5, 6, 7, 8, 9, 10, 11, 12, 13], []), ([14, 13, 13, 0, 1, 2, 3, 4, 5, 6, 7, 8, 9, 10, 11, 12, 13], [13, 14])])
def antiquaryref27_Build.B14 : List Nat := [0, 1, 0, 0, 0, 0, 0, 96, 224, 0, 1016, 2044, 4092, 8191, 16383, 32767]
theorem antiquaryref27_Build.tab14 : rtab .any (opsOf Tryz.f21 14) = antiquaryref27_Build.T14 := by kernel_rfl
theorem antiquaryref27_Build.bits14 : waitsOk antiquaryref27_Build.T14.2 antiquaryref27_Build.B14 = true := by kernel_rfl
set_option maxHeartbeats 8000000 in
set_option maxRecDepth 100000 in
theorem antiquaryref27_Build.calls (k : Nat) (a0 : Int) (A1 : Option Addr) (c1 : Nat) (l1 : List (List Int)) (a2 : Int) (r1 : List (S61)) (r2 : Int) (w : World) (hr1 : Kd.C (Kd.slice 3 (Kd.int .i64)) w A1 l1.length l1) (hc1 : l1.length ≤ c1) (h : antiquaryref27_Build.f k a0 l1 a2 = some (r1, r2)) :
    Calls Tryz.prog 21 #[.int .i64 a0, .slice A1 l1.length c1, .int .i64 a2] w fun e w' => ∃ v0_ : Value, e = .returned (.agg #[v0_, .int .i64 r2]) ∧ Kd.S k61 61 w' w.heap.size (fun _ => True) v0_ r1 ∧ Below w.heap.size w w' := by
  have hu48 := Tryz.underlying48
  have hu25 := Tryz.underlying25
  have hu61 := Tryz.underlying61
  have HR1 := Aside0.mk hr1
  have HC1 := Aside0.mk hc1
  clear hr1 hc1
  have HB := Aside0.mk (Below.refl w.heap.size w)
  have H : ((antiquaryref09_Metric.f a0).bind fun t149 => (if t149 = true then ((antiquaryref09_Fit.f k l1).bind fun t150 => (if t150 = true then (if a2 < 1 then (antiquaryref27_Build.j0 k a0 l1 a2 true) else (antiquaryref27_Build.j0 k a0 l1 a2 (decide (a2 > 4096)))) else (antiquaryref27_Build.j0 k a0 l1 a2 true))) else (antiquaryref27_Build.j0 k a0 l1 a2 true))) = some (r1, r2) := h
  clear h
  have HC4 := Aside0.mk H
  clear H
  go_enter Tryz.func21, Tryz.ntmps21
  go_upto_region 1 with (first | ((with_reducible refine gate_dst (N := 6) rfl ?_); (try (refine gate_guard (by rfl) ?_; dsimp only)); refine box_event ?hg (N := 6) ?hd (cs := #[.slice none 0 0, .int .i64 0]) (t := 48) ?hr ?_; (case hd => rfl); (case hg => rfl); (case hr => first | (go_simp; done) | (go_simp; rfl)); intro gb148 hg w5 hbox hb; have n0_ := Aside0.mk (below_step (by repeat (first | (with_reducible first | exact HB.out | apply below_alloc | apply pw_below_drewN | apply below_drew1) | exact HB.out)) hb); have n1_ := Aside0.mk (hbox); have n2_ := Aside0.mk ((by rw [hg]; exact (below_size (by repeat (first | (with_reducible first | exact HB.out | apply below_alloc | apply pw_below_drewN | apply below_drew1) | exact HB.out))) : w.heap.size ≤ gb148)); have n3_ := Aside0.mk ((by rw [hg]; exact (below_size (by repeat (first | (with_reducible first | exact HB.out | apply below_alloc | apply pw_below_drewN | apply below_drew1) | exact HB.out))) : w.heap.size ≤ gb148)); clear HB; have HB := n0_; have BK148 := n1_; have GW148 := n2_; have GE148 := n3_; clear n0_ n1_ n2_ n3_; clear hb hbox hg))
  (try simp only [Act.put, List.setIfInBounds_toArray, List.set_cons_zero, List.set_cons_succ])
  go_cut [27] (fun v27 wc => ∃ (kq : Nat) (x27_3 : Bool), v27 = .bool x27_3 ∧ Aside0 (antiquaryref27_Build.j0 kq a0 l1 a2 x27_3 = some (r1, r2)) ∧ Aside0 (kq ≤ k) ∧ Aside0 (wc.heap[gb148]? = some (.cells #[(.slice none 0 0), .int .i64 0] 48 (0, 0))) ∧ Aside0 (Below w.heap.size w wc))
  case first =>
    have H := HC4.out
    clear HC4
    replace H := Option.bind_eq_some_iff.mp H
    obtain ⟨t149, A60, H⟩ := H
    replace H : (if t149 = true then ((antiquaryref09_Fit.f k l1).bind fun t150 => (if t150 = true then (if a2 < 1 then (antiquaryref27_Build.j0 k a0 l1 a2 true) else (antiquaryref27_Build.j0 k a0 l1 a2 (decide (a2 > 4096)))) else (antiquaryref27_Build.j0 k a0 l1 a2 true))) else (antiquaryref27_Build.j0 k a0 l1 a2 true)) = some (r1, r2) := H
    have A6 := Aside0.mk A60
    clear A60
    by_cases c7 : t149 = true
    · subst c7
      have H1 : ((antiquaryref09_Fit.f k l1).bind fun t150 => (if t150 = true then (if a2 < 1 then (antiquaryref27_Build.j0 k a0 l1 a2 true) else (antiquaryref27_Build.j0 k a0 l1 a2 (decide (a2 > 4096)))) else (antiquaryref27_Build.j0 k a0 l1 a2 true))) = some (r1, r2) := by rw [if_pos rfl] at H; exact H
      clear H
      have H := H1
      clear H1
      replace H := Option.bind_eq_some_iff.mp H
      obtain ⟨t150, A80, H⟩ := H
      replace H : (if t150 = true then (if a2 < 1 then (antiquaryref27_Build.j0 k a0 l1 a2 true) else (antiquaryref27_Build.j0 k a0 l1 a2 (decide (a2 > 4096)))) else (antiquaryref27_Build.j0 k a0 l1 a2 true)) = some (r1, r2) := H
      have A8 := Aside0.mk A80
      clear A80
      by_cases c9 : t150 = true
      · subst c9
        have H1 : (if a2 < 1 then (antiquaryref27_Build.j0 k a0 l1 a2 true) else (antiquaryref27_Build.j0 k a0 l1 a2 (decide (a2 > 4096)))) = some (r1, r2) := by rw [if_pos rfl] at H; exact H
        clear H
        have H := H1
        clear H1
        by_cases c10 : a2 < 1
        · rw [if_pos c10] at H
          have c10b0 : decide (a2 < 1) = true := decide_eq_true c10
          clear c10
          (first | rw [c10b0] | (simp only [i64_w, i32_w]; rw [c10b0]) | skip)
          have H' := Aside0.mk H
          clear H
          go_wp2_with (first | ((with_reducible refine gate_callee (f := 16) rfl ?_); refine goesL_ (some 13) rfl rfl Tryz.func16 (by kernel_rfl) rfl #[.int .i64 a0] rfl (by (try simp only [List.map_toArray, List.map_cons, List.map_nil]); first | done | rfl | (simp only [List.length_drop, List.length_take]; rfl)) ?_; (with_reducible refine (antiquaryref09_Metric.calls a0 true _ A6.out).mono ?_); rintro e w' ⟨rfl, ⟨nd, rfl⟩⟩; refine ⟨_, rfl, ?_⟩) | (go_at_call 26; (with_reducible refine (antiquaryref09_Fit.calls k _ _ l1 true _ ?side1 ?side2 A8.out).mono ?_); (case side1 => repeat (first | exact (Kd.C_below HR1.out (by repeat (first | (with_reducible first | exact HB.out | apply below_alloc | apply pw_below_drewN | apply below_drew1 | refine below_set ?_ GE148.out) | exact HB.out))) | (with_reducible refine Kd.C_alloc ?_ _) | (with_reducible refine Kd.C_drewN ?_ _) | (with_reducible refine Kd.C_drew ?_))); (case side2 => exact HC1.out); rintro e w' ⟨rfl, ⟨nd, rfl⟩⟩))
          go_meet
          case rel => exact ⟨_, (true), (by first | rfl | (simp; done) | (simp [*]; done)), H', ⟨by first | omega | exact Nat.le_refl _⟩, ⟨by (with_reducible repeat (first | refine blk_drewN ?_ _ | refine blk_drew ?_ | refine blk_alloc ?_ _)); exact BK148.out⟩, ⟨by repeat (first | (with_reducible first | exact HB.out | apply below_alloc | apply pw_below_drewN | apply below_drew1 | refine below_set ?_ GE148.out) | exact HB.out)⟩⟩
        · rw [if_neg c10] at H
          have c10b0 : decide (a2 < 1) = false := decide_eq_false c10
          clear c10
          (first | rw [c10b0] | (simp only [i64_w, i32_w]; rw [c10b0]) | skip)
          have H' := Aside0.mk H
          clear H
          go_wp2_with (first | ((with_reducible refine gate_callee (f := 16) rfl ?_); refine goesL_ (some 13) rfl rfl Tryz.func16 (by kernel_rfl) rfl #[.int .i64 a0] rfl (by (try simp only [List.map_toArray, List.map_cons, List.map_nil]); first | done | rfl | (simp only [List.length_drop, List.length_take]; rfl)) ?_; (with_reducible refine (antiquaryref09_Metric.calls a0 true _ A6.out).mono ?_); rintro e w' ⟨rfl, ⟨nd, rfl⟩⟩; refine ⟨_, rfl, ?_⟩) | (go_at_call 26; (with_reducible refine (antiquaryref09_Fit.calls k _ _ l1 true _ ?side1 ?side2 A8.out).mono ?_); (case side1 => repeat (first | exact (Kd.C_below HR1.out (by repeat (first | (with_reducible first | exact HB.out | apply below_alloc | apply pw_below_drewN | apply below_drew1 | refine below_set ?_ GE148.out) | exact HB.out))) | (with_reducible refine Kd.C_alloc ?_ _) | (with_reducible refine Kd.C_drewN ?_ _) | (with_reducible refine Kd.C_drew ?_))); (case side2 => exact HC1.out); rintro e w' ⟨rfl, ⟨nd, rfl⟩⟩))
          go_meet
          case rel => exact ⟨_, (decide (a2 > 4096)), (by first | rfl | (simp; done) | (simp [*]; done)), H', ⟨by first | omega | exact Nat.le_refl _⟩, ⟨by (with_reducible repeat (first | refine blk_drewN ?_ _ | refine blk_drew ?_ | refine blk_alloc ?_ _)); exact BK148.out⟩, ⟨by repeat (first | (with_reducible first | exact HB.out | apply below_alloc | apply pw_below_drewN | apply below_drew1 | refine below_set ?_ GE148.out) | exact HB.out)⟩⟩
      · replace c9 := Bool.eq_false_iff.mpr c9
        subst c9
        have H1 : (antiquaryref27_Build.j0 k a0 l1 a2 true) = some (r1, r2) := by rw [if_neg (show ¬ (false = true) by decide)] at H; exact H
        clear H
        have H := H1
        clear H1
        have H' := Aside0.mk H
        clear H
        go_wp2_with (first | ((with_reducible refine gate_callee (f := 16) rfl ?_); refine goesL_ (some 13) rfl rfl Tryz.func16 (by kernel_rfl) rfl #[.int .i64 a0] rfl (by (try simp only [List.map_toArray, List.map_cons, List.map_nil]); first | done | rfl | (simp only [List.length_drop, List.length_take]; rfl)) ?_; (with_reducible refine (antiquaryref09_Metric.calls a0 true _ A6.out).mono ?_); rintro e w' ⟨rfl, ⟨nd, rfl⟩⟩; refine ⟨_, rfl, ?_⟩) | (go_at_call 26; (with_reducible refine (antiquaryref09_Fit.calls k _ _ l1 false _ ?side1 ?side2 A8.out).mono ?_); (case side1 => repeat (first | exact (Kd.C_below HR1.out (by repeat (first | (with_reducible first | exact HB.out | apply below_alloc | apply pw_below_drewN | apply below_drew1 | refine below_set ?_ GE148.out) | exact HB.out))) | (with_reducible refine Kd.C_alloc ?_ _) | (with_reducible refine Kd.C_drewN ?_ _) | (with_reducible refine Kd.C_drew ?_))); (case side2 => exact HC1.out); rintro e w' ⟨rfl, ⟨nd, rfl⟩⟩))
        go_meet
        case rel => exact ⟨_, (true), (by first | rfl | (simp; done) | (simp [*]; done)), H', ⟨by first | omega | exact Nat.le_refl _⟩, ⟨by (with_reducible repeat (first | refine blk_drewN ?_ _ | refine blk_drew ?_ | refine blk_alloc ?_ _)); exact BK148.out⟩, ⟨by repeat (first | (with_reducible first | exact HB.out | apply below_alloc | apply pw_below_drewN | apply below_drew1 | refine below_set ?_ GE148.out) | exact HB.out)⟩⟩
    · replace c7 := Bool.eq_false_iff.mpr c7
      subst c7
      have H1 : (antiquaryref27_Build.j0 k a0 l1 a2 true) = some (r1, r2) := by rw [if_neg (show ¬ (false = true) by decide)] at H; exact H
      clear H
      have H := H1
      clear H1
      have H' := Aside0.mk H
      clear H
      go_wp2_with (first | ((with_reducible refine gate_callee (f := 16) rfl ?_); refine goesL_ (some 13) rfl rfl Tryz.func16 (by kernel_rfl) rfl #[.int .i64 a0] rfl (by (try simp only [List.map_toArray, List.map_cons, List.map_nil]); first | done | rfl | (simp only [List.length_drop, List.length_take]; rfl)) ?_; (with_reducible refine (antiquaryref09_Metric.calls a0 false _ A6.out).mono ?_); rintro e w' ⟨rfl, ⟨nd, rfl⟩⟩; refine ⟨_, rfl, ?_⟩))
      go_meet
      case rel => exact ⟨_, (true), (by first | rfl | (simp; done) | (simp [*]; done)), H', ⟨by first | omega | exact Nat.le_refl _⟩, ⟨by (with_reducible repeat (first | refine blk_drewN ?_ _ | refine blk_drew ?_ | refine blk_alloc ?_ _)); exact BK148.out⟩, ⟨by repeat (first | (with_reducible first | exact HB.out | apply below_alloc | apply pw_below_drewN | apply below_drew1 | refine below_set ?_ GE148.out) | exact HB.out)⟩⟩
  case rest =>
    clear HC4
    try clear c1
    try clear c2
    try clear p2
    try clear c7
    try clear c9
    try clear c10
    try clear c10b0
    obtain ⟨kq, x27_3, rfl, HA, HJ3, BK148, HB⟩ := hcut
    cases kq with
    | zero => exact absurd HA.out (by simp [antiquaryref27_Build.j0])
    | succ kj3 =>
      have H := HA.out
      clear HA
      simp only [antiquaryref27_Build.j0] at H
      by_cases c11 : x27_3 = true
      · subst c11
        have H1 : (some (([] : List (S61)), 1)) = some (r1, r2) := by rw [if_pos rfl] at H; exact H
        clear H
        have H := H1
        clear H1
        simp only [Option.some.injEq, Prod.mk.injEq] at H
        obtain ⟨rfl, rfl⟩ := H
        have hcz12_0 : wc.cell? ⟨gb148, 0, none⟩ = some (.slice none 0 0) := (blk_cell BK148.out 0).trans rfl
        have hcz12_1 : wc.cell? ⟨gb148, 1, none⟩ = some (.int .i64 0) := (blk_cell BK148.out 1).trans rfl
        have hfz12_0 := blk_frozen BK148.out 0
        have hfz12_1 := blk_frozen BK148.out 1
        go_wp2
        refine bodyPost_ret (results_cell_row rfl _ _ gb148 48 #[.slice none 0 0, .int .i64 1] (0, 0) _ rfl (by (with_reducible repeat (first | refine blk_drewN ?_ _ | refine blk_drew ?_ | refine blk_alloc ?_ _)); refine blk_put (cs := #[.slice none 0 0, .int .i64 0]) ?_ 1 _ rfl; (with_reducible repeat (first | refine blk_drewN ?_ _ | refine blk_drew ?_ | refine blk_alloc ?_ _)); refine blk_put (cs := #[.slice none 0 0, .int .i64 0]) ?_ 0 _ rfl; (with_reducible repeat (first | refine blk_drewN ?_ _ | refine blk_drew ?_ | refine blk_alloc ?_ _)); exact BK148.out) Tryz.underlying48 rfl (by kernel_rfl)) rfl ?_
        exact ⟨_, by first | rfl | (simp [errW_none, errW_some] <;> rfl) | (simp [*, errW_none, errW_some] <;> rfl), by first | exact Kd.S_nil _ _ _ _ _ | exact Kd.N_nil _ _ _ _ _ | exact Kd.V_nil _ _ _ _ _ | exact Kd.Q_nil _ _ _ _ _ | exact Kd.R_nil _ _ _ _ _, by repeat (first | (with_reducible first | exact HB.out | apply below_alloc | apply pw_below_drewN | apply below_drew1 | refine below_set ?_ GE148.out) | exact HB.out)⟩
      · replace c11 := Bool.eq_false_iff.mpr c11
        subst c11
        have H1 : (antiquaryref27_Build.l0 kj3 a0 l1 a2 0 ([] : List (S61))) = some (r1, r2) := by rw [if_neg (show ¬ (false = true) by decide)] at H; exact H
        clear H
        have H := H1
        clear H1
        have H' := Aside0.mk H
        clear H
        go_wp2_with (first | ((with_reducible refine gate_dst (N := 7) rfl ?_); (try (refine gate_guard (by rfl) ?_; dsimp only)); refine box_event ?hg (N := 7) ?hd (cs := #[.slice none 0 0]) (t := 25) ?hr ?_; (case hd => rfl); (case hg => rfl); (case hr => first | (go_simp; done) | (go_simp; rfl)); intro gb151 hg w13 hbox hb; have n0_ := Aside0.mk (blk_below (g := gb148) (o := .cells #[.slice none 0 0, .int .i64 0] 48 (0, 0)) (by (with_reducible repeat (first | refine blk_drewN ?_ _ | refine blk_drew ?_ | refine blk_alloc ?_ _)); exact BK148.out) hb); have n1_ := Aside0.mk (below_step (by repeat (first | (with_reducible first | exact HB.out | apply below_alloc | apply pw_below_drewN | apply below_drew1 | refine below_set ?_ GE148.out) | exact HB.out)) hb); have n2_ := Aside0.mk (hbox); have n3_ := Aside0.mk ((by rw [hg]; exact (below_size (by repeat (first | (with_reducible first | exact HB.out | apply below_alloc | apply pw_below_drewN | apply below_drew1 | refine below_set ?_ GE148.out) | exact HB.out))) : w.heap.size ≤ gb151)); have n4_ := Aside0.mk ((by rw [hg]; exact (below_size (by repeat (first | (with_reducible first | exact HB.out | apply below_alloc | apply pw_below_drewN | apply below_drew1 | refine below_set ?_ GE148.out) | exact HB.out))) : w.heap.size ≤ gb151)); have n5_ := Aside0.mk ((by rw [hg]; exact Nat.ne_of_lt (blk_lt (g := gb148) (o := .cells #[.slice none 0 0, .int .i64 0] 48 (0, 0)) (by (with_reducible repeat (first | refine blk_drewN ?_ _ | refine blk_drew ?_ | refine blk_alloc ?_ _)); exact BK148.out)) : gb148 ≠ gb151)); have n6_ := Aside0.mk ((by rw [hg]; exact Nat.ne_of_gt (blk_lt (g := gb148) (o := .cells #[.slice none 0 0, .int .i64 0] 48 (0, 0)) (by (with_reducible repeat (first | refine blk_drewN ?_ _ | refine blk_drew ?_ | refine blk_alloc ?_ _)); exact BK148.out)) : gb151 ≠ gb148)); clear BK148; clear HB; have BK148 := n0_; have HB := n1_; have BK151 := n2_; have GW151 := n3_; have GE151 := n4_; have NB148_151 := n5_; have NB151_148 := n6_; clear n0_ n1_ n2_ n3_ n4_ n5_ n6_; clear hb hbox hg))
        go_loopg [8] kj3 (fun kq v8 w' => ∃ (x8_2 : Int) (x152000_2 : List (S61)) (u152000 : Value), v8 = .int .i64 x8_2 ∧ Aside0 (antiquaryref27_Build.l0 kq a0 l1 a2 x8_2 x152000_2 = some (r1, r2)) ∧ Aside0 (kq ≤ kj3) ∧ Aside0 (Kd.S k61 61 w' w.heap.size (fun _ => True) u152000 x152000_2) ∧ Aside0 (w'.heap[gb148]? = some (.cells #[(.slice none 0 0), .int .i64 0] 48 (0, 0))) ∧ Aside0 (w'.heap[gb151]? = some (.cells #[u152000] 25 (0, 0))) ∧ Aside0 (Below w.heap.size w w'))
        case atStart => exact ⟨(0), (([] : List (S61))), (.slice none 0 0), (by first | rfl | (simp; done) | (simp [*]; done)), H', ⟨Nat.le_refl _⟩, ⟨by first | exact Kd.S_nil _ _ _ _ _ | exact Kd.N_nil _ _ _ _ _ | exact Kd.V_nil _ _ _ _ _ | exact Kd.Q_nil _ _ _ _ _ | exact Kd.R_nil _ _ _ _ _⟩, ⟨by (with_reducible repeat (first | refine blk_drewN ?_ _ | refine blk_drew ?_ | refine blk_alloc ?_ _)); exact BK148.out⟩, ⟨by (with_reducible repeat (first | refine blk_drewN ?_ _ | refine blk_drew ?_ | refine blk_alloc ?_ _)); exact BK151.out⟩, ⟨by repeat (first | (with_reducible first | exact HB.out | apply below_alloc | apply pw_below_drewN | apply below_drew1 | refine below_set ?_ GE148.out | refine below_set ?_ GE151.out) | exact HB.out)⟩⟩
        case round =>
          clear H'
          try clear c1
          try clear c2
          try clear p2
          try clear c7
          try clear c9
          try clear c10
          try clear c10b0
          try clear c11
          try clear hcz12_0
          try clear hcz12_1
          try clear hfz12_0
          try clear hfz12_1
          try clear p2
          obtain ⟨x8_2, x152000_2, u152000, rfl, HA, HK2, HO_152000, BK148, BK151, HB⟩ := hrel
          cases gk with
          | zero => exact absurd HA.out (by simp [antiquaryref27_Build.l0])
          | succ k2 =>
            have H := HA.out
            clear HA
            simp only [antiquaryref27_Build.l0] at H
            by_cases c14 : x8_2 < (l1.length : Int)
            · rw [if_pos c14] at H
              have c14b0 : decide (x8_2 < (l1.length : Int)) = true := decide_eq_true c14
              clear c14
              have H' := Aside0.mk H
              clear H
              go_wp2
              go_loopg [9, 10] k2 (fun kq v9 v10 w' => ∃ (x9_3 : Int) (x10_3 : Int), v9 = .int .i64 x9_3 ∧ v10 = .int .i64 x10_3 ∧ Aside0 (antiquaryref27_Build.l1 kq a0 l1 a2 x8_2 x9_3 x10_3 x152000_2 = some (r1, r2)) ∧ Aside0 (kq ≤ k2) ∧ Aside0 (Kd.S k61 61 w' w.heap.size (fun _ => True) u152000 x152000_2) ∧ Aside0 (w'.heap[gb148]? = some (.cells #[(.slice none 0 0), .int .i64 0] 48 (0, 0))) ∧ Aside0 (w'.heap[gb151]? = some (.cells #[u152000] 25 (0, 0))) ∧ Aside0 (Below w.heap.size w w'))
              case atStart => exact ⟨(134217728), (0), (by first | rfl | (simp; done) | (simp [*]; done)), (by first | rfl | (simp; done) | (simp [*]; done)), H', ⟨Nat.le_refl _⟩, ⟨by (with_reducible repeat (first | apply Kd.S_alloc | apply Kd.S_drewN | apply Kd.S_drew)); exact HO_152000.out⟩, ⟨by (with_reducible repeat (first | refine blk_drewN ?_ _ | refine blk_drew ?_ | refine blk_alloc ?_ _)); exact BK148.out⟩, ⟨by (with_reducible repeat (first | refine blk_drewN ?_ _ | refine blk_drew ?_ | refine blk_alloc ?_ _)); exact BK151.out⟩, ⟨by repeat (first | (with_reducible first | exact HB.out | apply below_alloc | apply pw_below_drewN | apply below_drew1 | refine below_set ?_ GE148.out | refine below_set ?_ GE151.out) | exact HB.out)⟩⟩
              case round =>
                clear H'
                try clear c1
                try clear c2
                try clear p2
                try clear c7
                try clear c9
                try clear c10
                try clear c10b0
                try clear c11
                try clear c14
                try clear c14b0
                try clear hcz12_0
                try clear hcz12_1
                try clear hfz12_0
                try clear hfz12_1
                try clear p2
                obtain ⟨x9_3, x10_3, rfl, rfl, HA, HK3, HO_152000, BK148, BK151, HB⟩ := hrel
                cases gk with
                | zero => exact absurd HA.out (by simp [antiquaryref27_Build.l1])
                | succ k3 =>
                  have H := HA.out
                  clear HA
                  simp only [antiquaryref27_Build.l1] at H
                  by_cases c15 : x10_3 < (l1.length : Int)
                  · rw [if_pos c15] at H
                    have c15b0 : decide (x10_3 < (l1.length : Int)) = true := decide_eq_true c15
                    clear c15
                    by_cases c16 : 0 ≤ x8_2
                    · rw [if_pos c16] at H
                      have c16b0 : decide (0 ≤ x8_2) = true := decide_eq_true c16
                      clear c16
                      by_cases c17 : x8_2 < (l1.length : Int)
                      · rw [if_pos c17] at H
                        have c17b0 : decide (x8_2 < (l1.length : Int)) = true := decide_eq_true c17
                        clear c17
                        by_cases c18 : 0 ≤ x10_3
                        · rw [if_pos c18] at H
                          have c18b0 : decide (0 ≤ x10_3) = true := decide_eq_true c18
                          clear c18
                          replace H := Option.bind_eq_some_iff.mp H
                          obtain ⟨t161, A190, H⟩ := H
                          replace H : (if t161 < x9_3 then ((antiquaryref27_around.f k3 a0 l1 (rd_L1 l1 x8_2) t161).bind fun t163 => (if (t163.length : Int) ≥ (mn a2 (l1.length : Int)) then (antiquaryref27_Build.l1 k3 a0 l1 a2 x8_2 t161 (wrap64 (x10_3 + 1)) x152000_2) else (antiquaryref27_Build.l1 k3 a0 l1 a2 x8_2 x9_3 (wrap64 (x10_3 + 1)) x152000_2))) else (antiquaryref27_Build.l1 k3 a0 l1 a2 x8_2 x9_3 (wrap64 (x10_3 + 1)) x152000_2)) = some (r1, r2) := H
                          have A19 := Aside0.mk A190
                          clear A190
                          by_cases c20 : t161 < x9_3
                          · rw [if_pos c20] at H
                            have c20b0 : decide (t161 < x9_3) = true := decide_eq_true c20
                            clear c20
                            replace H := Option.bind_eq_some_iff.mp H
                            obtain ⟨t163, A210, H⟩ := H
                            replace H : (if (t163.length : Int) ≥ (mn a2 (l1.length : Int)) then (antiquaryref27_Build.l1 k3 a0 l1 a2 x8_2 t161 (wrap64 (x10_3 + 1)) x152000_2) else (antiquaryref27_Build.l1 k3 a0 l1 a2 x8_2 x9_3 (wrap64 (x10_3 + 1)) x152000_2)) = some (r1, r2) := H
                            have A21 := Aside0.mk A210
                            clear A210
                            obtain ⟨ji22, hji22⟩ : ∃ j_ : Int, (mn a2 (l1.length : Int)) = j_ := ⟨_, rfl⟩
                            replace H : (if (t163.length : Int) ≥ (ji22) then (antiquaryref27_Build.l1 k3 a0 l1 a2 x8_2 t161 (wrap64 (x10_3 + 1)) x152000_2) else (antiquaryref27_Build.l1 k3 a0 l1 a2 x8_2 x9_3 (wrap64 (x10_3 + 1)) x152000_2)) = some (r1, r2) := by first | (rw [hji22] at H; exact H) | (simp only [hji22] at H ⊢; exact H)
                            (try rw [hji22] at A19)
                            (try rw [hji22] at A21)
                            have hji22_ : (if (l1.length : Int) < a2 then (l1.length : Int) else a2) = ji22 := hji22
                            by_cases c23 : (t163.length : Int) ≥ (ji22)
                            · rw [if_pos c23] at H
                              have c23b0 : decide ((ji22) ≤ (t163.length : Int)) = true := decide_eq_true c23
                              clear c23
                              have H' := Aside0.mk H
                              clear H
                              try go_wp2
                              have n0_ := Aside0.mk (Kd.S_drew HO_152000.out)
                              have n1_ := Aside0.mk (blk_drew BK148.out)
                              have n2_ := Aside0.mk (blk_drew BK151.out)
                              have n3_ := Aside0.mk (below_drew1 HB.out)
                              clear HO_152000
                              clear BK148
                              clear BK151
                              clear HB
                              have HO_152000 := n0_
                              have BK148 := n1_
                              have BK151 := n2_
                              have HB := n3_
                              clear n0_ n1_ n2_ n3_
                              have p159 : 0 ≤ (x8_2 : Int) := of_decide_eq_true (by first | (with_reducible assumption) | assumption)
                              have q159 : x8_2 < (l1.length : Int) := of_decide_eq_true (by first | (with_reducible assumption) | assumption)
                              obtain ⟨ad159, A159_0, c159_0, e159, hx159_0, hl159_0, hi159_0⟩ := at_L1 HR1.out x8_2 p159 q159
                              have hw159_0 := hx159_0
                              cases e159
                              replace hx159_0 := (HB.out.cell (World.block_lt_of_cell? w _ hx159_0)).trans hx159_0
                              have HR159_0 := Aside0.mk hi159_0
                              have HC159_0 := Aside0.mk hl159_0
                              clear hi159_0 hl159_0
                              replace p159 := eq_true p159
                              replace q159 := eq_true q159
                              have p160 : 0 ≤ (x10_3 : Int) := of_decide_eq_true (by first | (with_reducible assumption) | assumption)
                              have q160 : x10_3 < (l1.length : Int) := of_decide_eq_true (by first | (with_reducible assumption) | assumption)
                              obtain ⟨ad160, A160_0, c160_0, e160, hx160_0, hl160_0, hi160_0⟩ := at_L1 HR1.out x10_3 p160 q160
                              have hw160_0 := hx160_0
                              obtain rfl : ad159 = ad160 := (by injection e160)
                              replace hx160_0 := (HB.out.cell (World.block_lt_of_cell? w _ hx160_0)).trans hx160_0
                              have HR160_0 := Aside0.mk hi160_0
                              have HC160_0 := Aside0.mk hl160_0
                              clear hi160_0 hl160_0
                              replace p160 := eq_true p160
                              replace q160 := eq_true q160
                              refine start_ (n := 11) (S := fun w' => w'.cell? (ad159.add (x8_2).toNat) = some (.slice A159_0 (rd_L1 l1 x8_2).length c159_0) ∧ w'.cell? (ad159.add (x10_3).toNat) = some (.slice A160_0 (rd_L1 l1 x10_3).length c160_0)) (ds := []) #[false, false, false, false, false, false, false, false, false, false, false] (by kernel_rfl) rfl rfl ⟨((HB.out.cell (World.block_lt_of_cell? w _ hw159_0)).trans hw159_0), ((HB.out.cell (World.block_lt_of_cell? w _ hw160_0)).trans hw160_0)⟩ (fun hHeld => ?_); refine with_tabW antiquaryref27_Build.tab11 antiquaryref27_Build.bits11 (fun HT_ HW_ => ?_)
                              generalize wr.drew = w24 at HO_152000 BK148 BK151 HB HR159_0 HR160_0 hx159_0 hx160_0 hHeld ⊢
                              refine pure_ (i := 0) (N := some 41) (v := ?_) (a' := ?_) #[true, false, false, false, false, false, false, false, false, false, false] rfl rfl (any_of HT_.out (by kernel_rfl)) (fun _ _ _ h => h) (Or.inl ⟨by rfl, ?_⟩) ?_ ?_
                              rotate_left
                              · intro w'
                                go_simp
                                with_reducible rfl
                              rotate_left
                              · simp only [Act.put, List.setIfInBounds_toArray, List.set_cons_zero, List.set_cons_succ, i64_w, i32_w]
                                rfl
                              refine pure_ (i := 1) (N := some 42) (v := ?_) (a' := ?_) #[true, true, false, false, false, false, false, false, false, false, false] rfl rfl (any_of HT_.out (by kernel_rfl)) (fun _ _ _ h => h) (Or.inl ⟨by rfl, ?_⟩) ?_ ?_
                              rotate_left
                              · intro w'
                                go_simp
                                with_reducible rfl
                              rotate_left
                              · simp only [Act.put, List.setIfInBounds_toArray, List.set_cons_zero, List.set_cons_succ, i64_w, i32_w]
                                rfl
                              refine pure_ (i := 2) (N := some 43) (v := ?_) (a' := ?_) #[true, true, true, false, false, false, false, false, false, false, false] rfl rfl (any_of HT_.out (by kernel_rfl)) (fun _ _ _ h => h) (Or.inl ⟨by rfl, ?_⟩) ?_ ?_
                              rotate_left
                              · intro w'
                                go_simp
                                with_reducible rfl
                              rotate_left
                              · simp only [Act.put, List.setIfInBounds_toArray, List.set_cons_zero, List.set_cons_succ, i64_w, i32_w]
                                rfl
                              refine pure_ (i := 3) (N := some 44) (v := ?_) (a' := ?_) #[true, true, true, true, false, false, false, false, false, false, false] rfl rfl (any_of HT_.out (by kernel_rfl)) (fun _ _ _ h => h) (Or.inl ⟨by rfl, ?_⟩) ?_ ?_
                              rotate_left
                              · intro w'
                                go_simp
                                with_reducible rfl
                              rotate_left
                              · simp only [Act.put, List.setIfInBounds_toArray, List.set_cons_zero, List.set_cons_succ, i64_w, i32_w]
                                rfl
                              refine pure_ (i := 5) (N := some 46) (v := ?_) (a' := ?_) #[true, true, true, true, false, true, false, false, false, false, false] rfl rfl (any_of HT_.out (by kernel_rfl)) (fun _ _ _ h => h) (Or.inl ⟨by rfl, ?_⟩) ?_ ?_
                              rotate_left
                              · intro w'
                                go_simp
                                with_reducible rfl
                              rotate_left
                              · simp only [Act.put, List.setIfInBounds_toArray, List.set_cons_zero, List.set_cons_succ, i64_w, i32_w]
                                rfl
                              refine pure_ (i := 6) (N := some 47) (v := ?_) (a' := ?_) #[true, true, true, true, false, true, true, false, false, false, false] rfl rfl (any_of HT_.out (by kernel_rfl)) (fun _ _ _ h => h) (Or.inl ⟨by rfl, ?_⟩) ?_ ?_
                              rotate_left
                              · intro w'
                                go_simp
                                with_reducible rfl
                              rotate_left
                              · simp only [Act.put, List.setIfInBounds_toArray, List.set_cons_zero, List.set_cons_succ, i64_w, i32_w]
                                rfl
                              refine pure_ (i := 7) (N := some 48) (v := ?_) (a' := ?_) #[true, true, true, true, false, true, true, true, false, false, false] rfl rfl (any_of HT_.out (by kernel_rfl)) (fun _ _ _ h => h) (Or.inl ⟨by rfl, ?_⟩) ?_ ?_
                              rotate_left
                              · intro w'
                                go_simp
                                with_reducible rfl
                              rotate_left
                              · simp only [Act.put, List.setIfInBounds_toArray, List.set_cons_zero, List.set_cons_succ, i64_w, i32_w]
                                rfl
                              refine take_ (i := 4) (N := some 45) (v := ?_) (a' := ?_) #[true, true, true, true, true, true, true, true, false, false, false] rfl rfl (take_ofW HT_.out HW_.out (by kernel_rfl)) (fun _ _ _ h => h) (Or.inl ⟨by rfl, ?_⟩) hHeld ?_ ?_
                              rotate_left
                              · rintro w' ⟨s0, s1⟩
                                go_simp
                                with_reducible rfl
                              rotate_left
                              · simp only [Act.put, List.setIfInBounds_toArray, List.set_cons_zero, List.set_cons_succ, i64_w, i32_w]
                                rfl
                              refine take_ (i := 8) (N := some 49) (v := ?_) (a' := ?_) #[true, true, true, true, true, true, true, true, true, false, false] rfl rfl (take_ofW HT_.out HW_.out (by kernel_rfl)) (fun _ _ _ h => h) (Or.inl ⟨by rfl, ?_⟩) hHeld ?_ ?_
                              rotate_left
                              · rintro w' ⟨s0, s1⟩
                                go_simp
                                with_reducible rfl
                              rotate_left
                              · simp only [Act.put, List.setIfInBounds_toArray, List.set_cons_zero, List.set_cons_succ, i64_w, i32_w]
                                rfl
                              refine one_ (i := 9) (N := some 50) #[true, true, true, true, true, true, true, true, true, true, false] rfl rfl (one_of HT_.out (by kernel_rfl)) (by decide) (fun K hK => ?_)
                              refine goes_ Tryz.func39 (by kernel_rfl) rfl #[.int .i64 a0, .slice A159_0 (rd_L1 l1 x8_2).length c159_0, .slice A160_0 (rd_L1 l1 x10_3).length c160_0] (by rfl) rfl rfl (by (try simp only [List.map_toArray, List.map_cons, List.map_nil]); first | done | rfl | (simp only [List.length_drop, List.length_take]; rfl)) ?_
                              with_reducible refine (antiquaryref04_Key.calls k3 a0 _ _ (rd_L1 l1 x8_2) _ _ (rd_L1 l1 x10_3) t161 _ ?side1 ?side2 ?side3 ?side4 A19.out).mono ?_
                              (case side1 => repeat (first | exact (Kd.C_below HR159_0.out HB.out) | (with_reducible refine Kd.C_alloc ?_ _) | (with_reducible refine Kd.C_drewN ?_ _) | (with_reducible refine Kd.C_drew ?_)))
                              (case side2 => exact HC159_0.out)
                              (case side3 => repeat (first | exact (Kd.C_below HR160_0.out HB.out) | (with_reducible refine Kd.C_alloc ?_ _) | (with_reducible refine Kd.C_drewN ?_ _) | (with_reducible refine Kd.C_drew ?_)))
                              (case side4 => exact HC160_0.out)
                              rintro e w25 ⟨rfl, hb⟩
                              refine ⟨_, rfl, ?_⟩
                              have n0_ := Aside0.mk (Kd.S_below (by (with_reducible repeat (first | apply Kd.S_alloc | apply Kd.S_drewN | apply Kd.S_drew)); exact HO_152000.out) hb)
                              have n1_ := Aside0.mk (blk_below (g := gb148) (o := .cells #[.slice none 0 0, .int .i64 0] 48 (0, 0)) (by (with_reducible repeat (first | refine blk_drewN ?_ _ | refine blk_drew ?_ | refine blk_alloc ?_ _)); exact BK148.out) hb)
                              have n2_ := Aside0.mk (blk_below (g := gb151) (o := .cells #[u152000] 25 (0, 0)) (by (with_reducible repeat (first | refine blk_drewN ?_ _ | refine blk_drew ?_ | refine blk_alloc ?_ _)); exact BK151.out) hb)
                              have n3_ := Aside0.mk (below_step (by repeat (first | (with_reducible first | exact HB.out | apply below_alloc | apply pw_below_drewN | apply below_drew1 | refine below_set ?_ GE148.out | refine below_set ?_ GE151.out) | exact HB.out)) hb)
                              clear HO_152000
                              clear BK148
                              clear BK151
                              clear HB
                              have HO_152000 := n0_
                              have BK148 := n1_
                              have BK151 := n2_
                              have HB := n3_
                              clear n0_ n1_ n2_ n3_
                              (try clear hb)
                              (try clear hb2)
                              (try clear hk)
                              (try clear hi)
                              refine hK.out _ _ ⟨((HB.out.cell (World.block_lt_of_cell? w _ hw159_0)).trans hw159_0), ((HB.out.cell (World.block_lt_of_cell? w _ hw160_0)).trans hw160_0)⟩ (fun hHeld => ?_)
                              clear hK K
                              refine norm_ (a' := ?_) ?_ ?_
                              rotate_left
                              · show Act.put _ (some 50) _ = _
                                simp only [Act.put, List.setIfInBounds_toArray, List.set_cons_zero, List.set_cons_succ, i64_w, i32_w]
                                rfl
                              refine pure_ (i := 10) (N := some 11) (v := ?_) (a' := ?_) #[true, true, true, true, true, true, true, true, true, true, true] rfl rfl (any_of HT_.out (by kernel_rfl)) (fun _ _ _ h => h) (Or.inl ⟨by rfl, ?_⟩) ?_ ?_
                              rotate_left
                              · intro w'
                                go_simp
                                with_reducible rfl
                              rotate_left
                              · simp only [Act.put, List.setIfInBounds_toArray, List.set_cons_zero, List.set_cons_succ, i64_w, i32_w]
                                rfl
                              refine done_ (done_of HT_.out (by kernel_rfl)) ?_
                              have p162 : 0 ≤ (x8_2 : Int) := of_decide_eq_true (by first | (with_reducible assumption) | assumption)
                              have q162 : x8_2 < (l1.length : Int) := of_decide_eq_true (by first | (with_reducible assumption) | assumption)
                              obtain ⟨ad162, A162_0, c162_0, e162, hx162_0, hl162_0, hi162_0⟩ := at_L1 HR1.out x8_2 p162 q162
                              obtain rfl : ad159 = ad162 := (by injection e162)
                              replace hx162_0 := (HB.out.cell (World.block_lt_of_cell? w _ hx162_0)).trans hx162_0
                              have HR162_0 := Aside0.mk hi162_0
                              have HC162_0 := Aside0.mk hl162_0
                              clear hi162_0 hl162_0
                              replace p162 := eq_true p162
                              replace q162 := eq_true q162
                              try go_wp2_with (first | (go_at_call 48; (with_reducible refine (antiquaryref27_around.calls k3 a0 _ _ l1 _ _ (rd_L1 l1 x8_2) t161 t163 _ ?side1 ?side2 ?side3 ?side4 A21.out).mono ?_); (case side1 => repeat (first | exact (Kd.C_below HR1.out HB.out) | (with_reducible refine Kd.C_alloc ?_ _) | (with_reducible refine Kd.C_drewN ?_ _) | (with_reducible refine Kd.C_drew ?_))); (case side2 => exact HC1.out); (case side3 => repeat (first | exact (Kd.C_below HR162_0.out HB.out) | exact (Kd.C_below HR159_0.out HB.out) | (with_reducible refine Kd.C_alloc ?_ _) | (with_reducible refine Kd.C_drewN ?_ _) | (with_reducible refine Kd.C_drew ?_))); (case side4 => first | exact HC162_0.out | exact HC159_0.out); rintro e w26 ⟨v164, rfl, ho0, hb⟩; have n0_ := Aside0.mk (Kd.S_elder' (by (with_reducible repeat (first | apply Kd.S_alloc | apply Kd.S_drewN | apply Kd.S_drew)); exact HO_152000.out) (Kd.R_base ho0) hb); have n1_ := Aside0.mk (Kd.R_lower ho0 (below_size (by repeat (first | (with_reducible first | exact HB.out | apply below_alloc | apply pw_below_drewN | apply below_drew1 | refine below_set ?_ GE148.out | refine below_set ?_ GE151.out) | exact HB.out)))); have n2_ := Aside0.mk (blk_below (g := gb148) (o := .cells #[.slice none 0 0, .int .i64 0] 48 (0, 0)) (by (with_reducible repeat (first | refine blk_drewN ?_ _ | refine blk_drew ?_ | refine blk_alloc ?_ _)); exact BK148.out) hb); have n3_ := Aside0.mk (blk_below (g := gb151) (o := .cells #[u152000] 25 (0, 0)) (by (with_reducible repeat (first | refine blk_drewN ?_ _ | refine blk_drew ?_ | refine blk_alloc ?_ _)); exact BK151.out) hb); have n4_ := Aside0.mk (below_step (by repeat (first | (with_reducible first | exact HB.out | apply below_alloc | apply pw_below_drewN | apply below_drew1 | refine below_set ?_ GE148.out | refine below_set ?_ GE151.out) | exact HB.out)) hb); clear HO_152000; clear BK148; clear BK151; clear HB; have HO_152000 := n0_; have HO165 := n1_; have BK148 := n2_; have BK151 := n3_; have HB := n4_; clear n0_ n1_ n2_ n3_ n4_; (try clear hb); (try clear hb2); (try clear hk); (try clear hi); (try clear ho0); obtain ⟨Ao27, co27, eo27⟩ := Kd.R_slice HO165.out; subst eo27))
                              go_roundg k3
                              case measure => have := HJ3.out; have := HK2.out; have := HK3.out; omega
                              case rel => exact ⟨(t161), (wrap64 (x10_3 + 1)), (by first | rfl | (simp; done) | (simp [*]; done)), (by first | rfl | (simp; done) | (simp [*]; done)), H', ⟨by have := HJ3.out; have := HK2.out; have := HK3.out; omega⟩, ⟨by (with_reducible repeat (first | apply Kd.S_alloc | apply Kd.S_drewN | apply Kd.S_drew)); exact Kd.S_mono HO_152000.out (fun _ hk => trivial)⟩, ⟨by (with_reducible repeat (first | refine blk_drewN ?_ _ | refine blk_drew ?_ | refine blk_alloc ?_ _)); exact BK148.out⟩, ⟨by (with_reducible repeat (first | refine blk_drewN ?_ _ | refine blk_drew ?_ | refine blk_alloc ?_ _)); exact BK151.out⟩, ⟨by repeat (first | (with_reducible first | exact HB.out | apply below_alloc | apply pw_below_drewN | apply below_drew1 | refine below_set ?_ GE148.out | refine below_set ?_ GE151.out) | exact HB.out)⟩⟩
                            · rw [if_neg c23] at H
                              have c23b0 : decide ((ji22) ≤ (t163.length : Int)) = false := decide_eq_false c23
                              clear c23
                              have H' := Aside0.mk H
                              clear H
                              try go_wp2
                              have n0_ := Aside0.mk (Kd.S_drew HO_152000.out)
                              have n1_ := Aside0.mk (blk_drew BK148.out)
                              have n2_ := Aside0.mk (blk_drew BK151.out)
                              have n3_ := Aside0.mk (below_drew1 HB.out)
                              clear HO_152000
                              clear BK148
                              clear BK151
                              clear HB
                              have HO_152000 := n0_
                              have BK148 := n1_
                              have BK151 := n2_
                              have HB := n3_
                              clear n0_ n1_ n2_ n3_
                              have p159 : 0 ≤ (x8_2 : Int) := of_decide_eq_true (by first | (with_reducible assumption) | assumption)
                              have q159 : x8_2 < (l1.length : Int) := of_decide_eq_true (by first | (with_reducible assumption) | assumption)
                              obtain ⟨ad159, A159_0, c159_0, e159, hx159_0, hl159_0, hi159_0⟩ := at_L1 HR1.out x8_2 p159 q159
                              have hw159_0 := hx159_0
                              cases e159
                              replace hx159_0 := (HB.out.cell (World.block_lt_of_cell? w _ hx159_0)).trans hx159_0
                              have HR159_0 := Aside0.mk hi159_0
                              have HC159_0 := Aside0.mk hl159_0
                              clear hi159_0 hl159_0
                              replace p159 := eq_true p159
                              replace q159 := eq_true q159
                              have p160 : 0 ≤ (x10_3 : Int) := of_decide_eq_true (by first | (with_reducible assumption) | assumption)
                              have q160 : x10_3 < (l1.length : Int) := of_decide_eq_true (by first | (with_reducible assumption) | assumption)
                              obtain ⟨ad160, A160_0, c160_0, e160, hx160_0, hl160_0, hi160_0⟩ := at_L1 HR1.out x10_3 p160 q160
                              have hw160_0 := hx160_0
                              obtain rfl : ad159 = ad160 := (by injection e160)
                              replace hx160_0 := (HB.out.cell (World.block_lt_of_cell? w _ hx160_0)).trans hx160_0
                              have HR160_0 := Aside0.mk hi160_0
                              have HC160_0 := Aside0.mk hl160_0
                              clear hi160_0 hl160_0
                              replace p160 := eq_true p160
                              replace q160 := eq_true q160
                              refine start_ (n := 11) (S := fun w' => w'.cell? (ad159.add (x8_2).toNat) = some (.slice A159_0 (rd_L1 l1 x8_2).length c159_0) ∧ w'.cell? (ad159.add (x10_3).toNat) = some (.slice A160_0 (rd_L1 l1 x10_3).length c160_0)) (ds := []) #[false, false, false, false, false, false, false, false, false, false, false] (by kernel_rfl) rfl rfl ⟨((HB.out.cell (World.block_lt_of_cell? w _ hw159_0)).trans hw159_0), ((HB.out.cell (World.block_lt_of_cell? w _ hw160_0)).trans hw160_0)⟩ (fun hHeld => ?_); refine with_tabW antiquaryref27_Build.tab11 antiquaryref27_Build.bits11 (fun HT_ HW_ => ?_)
                              generalize wr.drew = w28 at HO_152000 BK148 BK151 HB HR159_0 HR160_0 hx159_0 hx160_0 hHeld ⊢
                              refine pure_ (i := 0) (N := some 41) (v := ?_) (a' := ?_) #[true, false, false, false, false, false, false, false, false, false, false] rfl rfl (any_of HT_.out (by kernel_rfl)) (fun _ _ _ h => h) (Or.inl ⟨by rfl, ?_⟩) ?_ ?_
                              rotate_left
                              · intro w'
                                go_simp
                                with_reducible rfl
                              rotate_left
                              · simp only [Act.put, List.setIfInBounds_toArray, List.set_cons_zero, List.set_cons_succ, i64_w, i32_w]
                                rfl
                              refine pure_ (i := 1) (N := some 42) (v := ?_) (a' := ?_) #[true, true, false, false, false, false, false, false, false, false, false] rfl rfl (any_of HT_.out (by kernel_rfl)) (fun _ _ _ h => h) (Or.inl ⟨by rfl, ?_⟩) ?_ ?_
                              rotate_left
                              · intro w'
                                go_simp
                                with_reducible rfl
                              rotate_left
                              · simp only [Act.put, List.setIfInBounds_toArray, List.set_cons_zero, List.set_cons_succ, i64_w, i32_w]
                                rfl
                              refine pure_ (i := 2) (N := some 43) (v := ?_) (a' := ?_) #[true, true, true, false, false, false, false, false, false, false, false] rfl rfl (any_of HT_.out (by kernel_rfl)) (fun _ _ _ h => h) (Or.inl ⟨by rfl, ?_⟩) ?_ ?_
                              rotate_left
                              · intro w'
                                go_simp
                                with_reducible rfl
                              rotate_left
                              · simp only [Act.put, List.setIfInBounds_toArray, List.set_cons_zero, List.set_cons_succ, i64_w, i32_w]
                                rfl
                              refine pure_ (i := 3) (N := some 44) (v := ?_) (a' := ?_) #[true, true, true, true, false, false, false, false, false, false, false] rfl rfl (any_of HT_.out (by kernel_rfl)) (fun _ _ _ h => h) (Or.inl ⟨by rfl, ?_⟩) ?_ ?_
                              rotate_left
                              · intro w'
                                go_simp
                                with_reducible rfl
                              rotate_left
                              · simp only [Act.put, List.setIfInBounds_toArray, List.set_cons_zero, List.set_cons_succ, i64_w, i32_w]
                                rfl
                              refine pure_ (i := 5) (N := some 46) (v := ?_) (a' := ?_) #[true, true, true, true, false, true, false, false, false, false, false] rfl rfl (any_of HT_.out (by kernel_rfl)) (fun _ _ _ h => h) (Or.inl ⟨by rfl, ?_⟩) ?_ ?_
                              rotate_left
                              · intro w'
                                go_simp
                                with_reducible rfl
                              rotate_left
                              · simp only [Act.put, List.setIfInBounds_toArray, List.set_cons_zero, List.set_cons_succ, i64_w, i32_w]
                                rfl
                              refine pure_ (i := 6) (N := some 47) (v := ?_) (a' := ?_) #[true, true, true, true, false, true, true, false, false, false, false] rfl rfl (any_of HT_.out (by kernel_rfl)) (fun _ _ _ h => h) (Or.inl ⟨by rfl, ?_⟩) ?_ ?_
                              rotate_left
                              · intro w'
                                go_simp
                                with_reducible rfl
                              rotate_left
                              · simp only [Act.put, List.setIfInBounds_toArray, List.set_cons_zero, List.set_cons_succ, i64_w, i32_w]
                                rfl
                              refine pure_ (i := 7) (N := some 48) (v := ?_) (a' := ?_) #[true, true, true, true, false, true, true, true, false, false, false] rfl rfl (any_of HT_.out (by kernel_rfl)) (fun _ _ _ h => h) (Or.inl ⟨by rfl, ?_⟩) ?_ ?_
                              rotate_left
                              · intro w'
                                go_simp
                                with_reducible rfl
                              rotate_left
                              · simp only [Act.put, List.setIfInBounds_toArray, List.set_cons_zero, List.set_cons_succ, i64_w, i32_w]
                                rfl
                              refine take_ (i := 4) (N := some 45) (v := ?_) (a' := ?_) #[true, true, true, true, true, true, true, true, false, false, false] rfl rfl (take_ofW HT_.out HW_.out (by kernel_rfl)) (fun _ _ _ h => h) (Or.inl ⟨by rfl, ?_⟩) hHeld ?_ ?_
                              rotate_left
                              · rintro w' ⟨s0, s1⟩
                                go_simp
                                with_reducible rfl
                              rotate_left
                              · simp only [Act.put, List.setIfInBounds_toArray, List.set_cons_zero, List.set_cons_succ, i64_w, i32_w]
                                rfl
                              refine take_ (i := 8) (N := some 49) (v := ?_) (a' := ?_) #[true, true, true, true, true, true, true, true, true, false, false] rfl rfl (take_ofW HT_.out HW_.out (by kernel_rfl)) (fun _ _ _ h => h) (Or.inl ⟨by rfl, ?_⟩) hHeld ?_ ?_
                              rotate_left
                              · rintro w' ⟨s0, s1⟩
                                go_simp
                                with_reducible rfl
                              rotate_left
                              · simp only [Act.put, List.setIfInBounds_toArray, List.set_cons_zero, List.set_cons_succ, i64_w, i32_w]
                                rfl
                              refine one_ (i := 9) (N := some 50) #[true, true, true, true, true, true, true, true, true, true, false] rfl rfl (one_of HT_.out (by kernel_rfl)) (by decide) (fun K hK => ?_)
                              refine goes_ Tryz.func39 (by kernel_rfl) rfl #[.int .i64 a0, .slice A159_0 (rd_L1 l1 x8_2).length c159_0, .slice A160_0 (rd_L1 l1 x10_3).length c160_0] (by rfl) rfl rfl (by (try simp only [List.map_toArray, List.map_cons, List.map_nil]); first | done | rfl | (simp only [List.length_drop, List.length_take]; rfl)) ?_
                              with_reducible refine (antiquaryref04_Key.calls k3 a0 _ _ (rd_L1 l1 x8_2) _ _ (rd_L1 l1 x10_3) t161 _ ?side1 ?side2 ?side3 ?side4 A19.out).mono ?_
                              (case side1 => repeat (first | exact (Kd.C_below HR159_0.out HB.out) | (with_reducible refine Kd.C_alloc ?_ _) | (with_reducible refine Kd.C_drewN ?_ _) | (with_reducible refine Kd.C_drew ?_)))
                              (case side2 => exact HC159_0.out)
                              (case side3 => repeat (first | exact (Kd.C_below HR160_0.out HB.out) | (with_reducible refine Kd.C_alloc ?_ _) | (with_reducible refine Kd.C_drewN ?_ _) | (with_reducible refine Kd.C_drew ?_)))
                              (case side4 => exact HC160_0.out)
                              rintro e w29 ⟨rfl, hb⟩
                              refine ⟨_, rfl, ?_⟩
                              have n0_ := Aside0.mk (Kd.S_below (by (with_reducible repeat (first | apply Kd.S_alloc | apply Kd.S_drewN | apply Kd.S_drew)); exact HO_152000.out) hb)
                              have n1_ := Aside0.mk (blk_below (g := gb148) (o := .cells #[.slice none 0 0, .int .i64 0] 48 (0, 0)) (by (with_reducible repeat (first | refine blk_drewN ?_ _ | refine blk_drew ?_ | refine blk_alloc ?_ _)); exact BK148.out) hb)
                              have n2_ := Aside0.mk (blk_below (g := gb151) (o := .cells #[u152000] 25 (0, 0)) (by (with_reducible repeat (first | refine blk_drewN ?_ _ | refine blk_drew ?_ | refine blk_alloc ?_ _)); exact BK151.out) hb)
                              have n3_ := Aside0.mk (below_step (by repeat (first | (with_reducible first | exact HB.out | apply below_alloc | apply pw_below_drewN | apply below_drew1 | refine below_set ?_ GE148.out | refine below_set ?_ GE151.out) | exact HB.out)) hb)
                              clear HO_152000
                              clear BK148
                              clear BK151
                              clear HB
                              have HO_152000 := n0_
                              have BK148 := n1_
                              have BK151 := n2_
                              have HB := n3_
                              clear n0_ n1_ n2_ n3_
                              (try clear hb)
                              (try clear hb2)
                              (try clear hk)
                              (try clear hi)
                              refine hK.out _ _ ⟨((HB.out.cell (World.block_lt_of_cell? w _ hw159_0)).trans hw159_0), ((HB.out.cell (World.block_lt_of_cell? w _ hw160_0)).trans hw160_0)⟩ (fun hHeld => ?_)
                              clear hK K
                              refine norm_ (a' := ?_) ?_ ?_
                              rotate_left
                              · show Act.put _ (some 50) _ = _
                                simp only [Act.put, List.setIfInBounds_toArray, List.set_cons_zero, List.set_cons_succ, i64_w, i32_w]
                                rfl
                              refine pure_ (i := 10) (N := some 11) (v := ?_) (a' := ?_) #[true, true, true, true, true, true, true, true, true, true, true] rfl rfl (any_of HT_.out (by kernel_rfl)) (fun _ _ _ h => h) (Or.inl ⟨by rfl, ?_⟩) ?_ ?_
                              rotate_left
                              · intro w'
                                go_simp
                                with_reducible rfl
                              rotate_left
                              · simp only [Act.put, List.setIfInBounds_toArray, List.set_cons_zero, List.set_cons_succ, i64_w, i32_w]
                                rfl
                              refine done_ (done_of HT_.out (by kernel_rfl)) ?_
                              have p162 : 0 ≤ (x8_2 : Int) := of_decide_eq_true (by first | (with_reducible assumption) | assumption)
                              have q162 : x8_2 < (l1.length : Int) := of_decide_eq_true (by first | (with_reducible assumption) | assumption)
                              obtain ⟨ad162, A162_0, c162_0, e162, hx162_0, hl162_0, hi162_0⟩ := at_L1 HR1.out x8_2 p162 q162
                              obtain rfl : ad159 = ad162 := (by injection e162)
                              replace hx162_0 := (HB.out.cell (World.block_lt_of_cell? w _ hx162_0)).trans hx162_0
                              have HR162_0 := Aside0.mk hi162_0
                              have HC162_0 := Aside0.mk hl162_0
                              clear hi162_0 hl162_0
                              replace p162 := eq_true p162
                              replace q162 := eq_true q162
                              try go_wp2_with (first | (go_at_call 48; (with_reducible refine (antiquaryref27_around.calls k3 a0 _ _ l1 _ _ (rd_L1 l1 x8_2) t161 t163 _ ?side1 ?side2 ?side3 ?side4 A21.out).mono ?_); (case side1 => repeat (first | exact (Kd.C_below HR1.out HB.out) | (with_reducible refine Kd.C_alloc ?_ _) | (with_reducible refine Kd.C_drewN ?_ _) | (with_reducible refine Kd.C_drew ?_))); (case side2 => exact HC1.out); (case side3 => repeat (first | exact (Kd.C_below HR162_0.out HB.out) | exact (Kd.C_below HR159_0.out HB.out) | (with_reducible refine Kd.C_alloc ?_ _) | (with_reducible refine Kd.C_drewN ?_ _) | (with_reducible refine Kd.C_drew ?_))); (case side4 => first | exact HC162_0.out | exact HC159_0.out); rintro e w30 ⟨v164, rfl, ho0, hb⟩; have n0_ := Aside0.mk (Kd.S_elder' (by (with_reducible repeat (first | apply Kd.S_alloc | apply Kd.S_drewN | apply Kd.S_drew)); exact HO_152000.out) (Kd.R_base ho0) hb); have n1_ := Aside0.mk (Kd.R_lower ho0 (below_size (by repeat (first | (with_reducible first | exact HB.out | apply below_alloc | apply pw_below_drewN | apply below_drew1 | refine below_set ?_ GE148.out | refine below_set ?_ GE151.out) | exact HB.out)))); have n2_ := Aside0.mk (blk_below (g := gb148) (o := .cells #[.slice none 0 0, .int .i64 0] 48 (0, 0)) (by (with_reducible repeat (first | refine blk_drewN ?_ _ | refine blk_drew ?_ | refine blk_alloc ?_ _)); exact BK148.out) hb); have n3_ := Aside0.mk (blk_below (g := gb151) (o := .cells #[u152000] 25 (0, 0)) (by (with_reducible repeat (first | refine blk_drewN ?_ _ | refine blk_drew ?_ | refine blk_alloc ?_ _)); exact BK151.out) hb); have n4_ := Aside0.mk (below_step (by repeat (first | (with_reducible first | exact HB.out | apply below_alloc | apply pw_below_drewN | apply below_drew1 | refine below_set ?_ GE148.out | refine below_set ?_ GE151.out) | exact HB.out)) hb); clear HO_152000; clear BK148; clear BK151; clear HB; have HO_152000 := n0_; have HO165 := n1_; have BK148 := n2_; have BK151 := n3_; have HB := n4_; clear n0_ n1_ n2_ n3_ n4_; (try clear hb); (try clear hb2); (try clear hk); (try clear hi); (try clear ho0); obtain ⟨Ao31, co31, eo31⟩ := Kd.R_slice HO165.out; subst eo31))
                              go_roundg k3
                              case measure => have := HJ3.out; have := HK2.out; have := HK3.out; omega
                              case rel => exact ⟨(x9_3), (wrap64 (x10_3 + 1)), (by first | rfl | (simp; done) | (simp [*]; done)), (by first | rfl | (simp; done) | (simp [*]; done)), H', ⟨by have := HJ3.out; have := HK2.out; have := HK3.out; omega⟩, ⟨by (with_reducible repeat (first | apply Kd.S_alloc | apply Kd.S_drewN | apply Kd.S_drew)); exact Kd.S_mono HO_152000.out (fun _ hk => trivial)⟩, ⟨by (with_reducible repeat (first | refine blk_drewN ?_ _ | refine blk_drew ?_ | refine blk_alloc ?_ _)); exact BK148.out⟩, ⟨by (with_reducible repeat (first | refine blk_drewN ?_ _ | refine blk_drew ?_ | refine blk_alloc ?_ _)); exact BK151.out⟩, ⟨by repeat (first | (with_reducible first | exact HB.out | apply below_alloc | apply pw_below_drewN | apply below_drew1 | refine below_set ?_ GE148.out | refine below_set ?_ GE151.out) | exact HB.out)⟩⟩
                          · rw [if_neg c20] at H
                            have c20b0 : decide (t161 < x9_3) = false := decide_eq_false c20
                            clear c20
                            have H' := Aside0.mk H
                            clear H
                            try go_wp2
                            have n0_ := Aside0.mk (Kd.S_drew HO_152000.out)
                            have n1_ := Aside0.mk (blk_drew BK148.out)
                            have n2_ := Aside0.mk (blk_drew BK151.out)
                            have n3_ := Aside0.mk (below_drew1 HB.out)
                            clear HO_152000
                            clear BK148
                            clear BK151
                            clear HB
                            have HO_152000 := n0_
                            have BK148 := n1_
                            have BK151 := n2_
                            have HB := n3_
                            clear n0_ n1_ n2_ n3_
                            have p159 : 0 ≤ (x8_2 : Int) := of_decide_eq_true (by first | (with_reducible assumption) | assumption)
                            have q159 : x8_2 < (l1.length : Int) := of_decide_eq_true (by first | (with_reducible assumption) | assumption)
                            obtain ⟨ad159, A159_0, c159_0, e159, hx159_0, hl159_0, hi159_0⟩ := at_L1 HR1.out x8_2 p159 q159
                            have hw159_0 := hx159_0
                            cases e159
                            replace hx159_0 := (HB.out.cell (World.block_lt_of_cell? w _ hx159_0)).trans hx159_0
                            have HR159_0 := Aside0.mk hi159_0
                            have HC159_0 := Aside0.mk hl159_0
                            clear hi159_0 hl159_0
                            replace p159 := eq_true p159
                            replace q159 := eq_true q159
                            have p160 : 0 ≤ (x10_3 : Int) := of_decide_eq_true (by first | (with_reducible assumption) | assumption)
                            have q160 : x10_3 < (l1.length : Int) := of_decide_eq_true (by first | (with_reducible assumption) | assumption)
                            obtain ⟨ad160, A160_0, c160_0, e160, hx160_0, hl160_0, hi160_0⟩ := at_L1 HR1.out x10_3 p160 q160
                            have hw160_0 := hx160_0
                            obtain rfl : ad159 = ad160 := (by injection e160)
                            replace hx160_0 := (HB.out.cell (World.block_lt_of_cell? w _ hx160_0)).trans hx160_0
                            have HR160_0 := Aside0.mk hi160_0
                            have HC160_0 := Aside0.mk hl160_0
                            clear hi160_0 hl160_0
                            replace p160 := eq_true p160
                            replace q160 := eq_true q160
                            refine start_ (n := 11) (S := fun w' => w'.cell? (ad159.add (x8_2).toNat) = some (.slice A159_0 (rd_L1 l1 x8_2).length c159_0) ∧ w'.cell? (ad159.add (x10_3).toNat) = some (.slice A160_0 (rd_L1 l1 x10_3).length c160_0)) (ds := []) #[false, false, false, false, false, false, false, false, false, false, false] (by kernel_rfl) rfl rfl ⟨((HB.out.cell (World.block_lt_of_cell? w _ hw159_0)).trans hw159_0), ((HB.out.cell (World.block_lt_of_cell? w _ hw160_0)).trans hw160_0)⟩ (fun hHeld => ?_); refine with_tabW antiquaryref27_Build.tab11 antiquaryref27_Build.bits11 (fun HT_ HW_ => ?_)
                            generalize wr.drew = w32 at HO_152000 BK148 BK151 HB HR159_0 HR160_0 hx159_0 hx160_0 hHeld ⊢
                            refine pure_ (i := 0) (N := some 41) (v := ?_) (a' := ?_) #[true, false, false, false, false, false, false, false, false, false, false] rfl rfl (any_of HT_.out (by kernel_rfl)) (fun _ _ _ h => h) (Or.inl ⟨by rfl, ?_⟩) ?_ ?_
                            rotate_left
                            · intro w'
                              go_simp
                              with_reducible rfl
                            rotate_left
                            · simp only [Act.put, List.setIfInBounds_toArray, List.set_cons_zero, List.set_cons_succ, i64_w, i32_w]
                              rfl
                            refine pure_ (i := 1) (N := some 42) (v := ?_) (a' := ?_) #[true, true, false, false, false, false, false, false, false, false, false] rfl rfl (any_of HT_.out (by kernel_rfl)) (fun _ _ _ h => h) (Or.inl ⟨by rfl, ?_⟩) ?_ ?_
                            rotate_left
                            · intro w'
                              go_simp
                              with_reducible rfl
                            rotate_left
                            · simp only [Act.put, List.setIfInBounds_toArray, List.set_cons_zero, List.set_cons_succ, i64_w, i32_w]
                              rfl
                            refine pure_ (i := 2) (N := some 43) (v := ?_) (a' := ?_) #[true, true, true, false, false, false, false, false, false, false, false] rfl rfl (any_of HT_.out (by kernel_rfl)) (fun _ _ _ h => h) (Or.inl ⟨by rfl, ?_⟩) ?_ ?_
                            rotate_left
                            · intro w'
                              go_simp
                              with_reducible rfl
                            rotate_left
                            · simp only [Act.put, List.setIfInBounds_toArray, List.set_cons_zero, List.set_cons_succ, i64_w, i32_w]
                              rfl
                            refine pure_ (i := 3) (N := some 44) (v := ?_) (a' := ?_) #[true, true, true, true, false, false, false, false, false, false, false] rfl rfl (any_of HT_.out (by kernel_rfl)) (fun _ _ _ h => h) (Or.inl ⟨by rfl, ?_⟩) ?_ ?_
                            rotate_left
                            · intro w'
                              go_simp
                              with_reducible rfl
                            rotate_left
                            · simp only [Act.put, List.setIfInBounds_toArray, List.set_cons_zero, List.set_cons_succ, i64_w, i32_w]
                              rfl
                            refine pure_ (i := 5) (N := some 46) (v := ?_) (a' := ?_) #[true, true, true, true, false, true, false, false, false, false, false] rfl rfl (any_of HT_.out (by kernel_rfl)) (fun _ _ _ h => h) (Or.inl ⟨by rfl, ?_⟩) ?_ ?_
                            rotate_left
                            · intro w'
                              go_simp
                              with_reducible rfl
                            rotate_left
                            · simp only [Act.put, List.setIfInBounds_toArray, List.set_cons_zero, List.set_cons_succ, i64_w, i32_w]
                              rfl
                            refine pure_ (i := 6) (N := some 47) (v := ?_) (a' := ?_) #[true, true, true, true, false, true, true, false, false, false, false] rfl rfl (any_of HT_.out (by kernel_rfl)) (fun _ _ _ h => h) (Or.inl ⟨by rfl, ?_⟩) ?_ ?_
                            rotate_left
                            · intro w'
                              go_simp
                              with_reducible rfl
                            rotate_left
                            · simp only [Act.put, List.setIfInBounds_toArray, List.set_cons_zero, List.set_cons_succ, i64_w, i32_w]
                              rfl
                            refine pure_ (i := 7) (N := some 48) (v := ?_) (a' := ?_) #[true, true, true, true, false, true, true, true, false, false, false] rfl rfl (any_of HT_.out (by kernel_rfl)) (fun _ _ _ h => h) (Or.inl ⟨by rfl, ?_⟩) ?_ ?_
                            rotate_left
                            · intro w'
                              go_simp
                              with_reducible rfl
                            rotate_left
                            · simp only [Act.put, List.setIfInBounds_toArray, List.set_cons_zero, List.set_cons_succ, i64_w, i32_w]
                              rfl
                            refine take_ (i := 4) (N := some 45) (v := ?_) (a' := ?_) #[true, true, true, true, true, true, true, true, false, false, false] rfl rfl (take_ofW HT_.out HW_.out (by kernel_rfl)) (fun _ _ _ h => h) (Or.inl ⟨by rfl, ?_⟩) hHeld ?_ ?_
                            rotate_left
                            · rintro w' ⟨s0, s1⟩
                              go_simp
                              with_reducible rfl
                            rotate_left
                            · simp only [Act.put, List.setIfInBounds_toArray, List.set_cons_zero, List.set_cons_succ, i64_w, i32_w]
                              rfl
                            refine take_ (i := 8) (N := some 49) (v := ?_) (a' := ?_) #[true, true, true, true, true, true, true, true, true, false, false] rfl rfl (take_ofW HT_.out HW_.out (by kernel_rfl)) (fun _ _ _ h => h) (Or.inl ⟨by rfl, ?_⟩) hHeld ?_ ?_
                            rotate_left
                            · rintro w' ⟨s0, s1⟩
                              go_simp
                              with_reducible rfl
                            rotate_left
                            · simp only [Act.put, List.setIfInBounds_toArray, List.set_cons_zero, List.set_cons_succ, i64_w, i32_w]
                              rfl
                            refine one_ (i := 9) (N := some 50) #[true, true, true, true, true, true, true, true, true, true, false] rfl rfl (one_of HT_.out (by kernel_rfl)) (by decide) (fun K hK => ?_)
                            refine goes_ Tryz.func39 (by kernel_rfl) rfl #[.int .i64 a0, .slice A159_0 (rd_L1 l1 x8_2).length c159_0, .slice A160_0 (rd_L1 l1 x10_3).length c160_0] (by rfl) rfl rfl (by (try simp only [List.map_toArray, List.map_cons, List.map_nil]); first | done | rfl | (simp only [List.length_drop, List.length_take]; rfl)) ?_
                            with_reducible refine (antiquaryref04_Key.calls k3 a0 _ _ (rd_L1 l1 x8_2) _ _ (rd_L1 l1 x10_3) t161 _ ?side1 ?side2 ?side3 ?side4 A19.out).mono ?_
                            (case side1 => repeat (first | exact (Kd.C_below HR159_0.out HB.out) | (with_reducible refine Kd.C_alloc ?_ _) | (with_reducible refine Kd.C_drewN ?_ _) | (with_reducible refine Kd.C_drew ?_)))
                            (case side2 => exact HC159_0.out)
                            (case side3 => repeat (first | exact (Kd.C_below HR160_0.out HB.out) | (with_reducible refine Kd.C_alloc ?_ _) | (with_reducible refine Kd.C_drewN ?_ _) | (with_reducible refine Kd.C_drew ?_)))
                            (case side4 => exact HC160_0.out)
                            rintro e w33 ⟨rfl, hb⟩
                            refine ⟨_, rfl, ?_⟩
                            have n0_ := Aside0.mk (Kd.S_below (by (with_reducible repeat (first | apply Kd.S_alloc | apply Kd.S_drewN | apply Kd.S_drew)); exact HO_152000.out) hb)
                            have n1_ := Aside0.mk (blk_below (g := gb148) (o := .cells #[.slice none 0 0, .int .i64 0] 48 (0, 0)) (by (with_reducible repeat (first | refine blk_drewN ?_ _ | refine blk_drew ?_ | refine blk_alloc ?_ _)); exact BK148.out) hb)
                            have n2_ := Aside0.mk (blk_below (g := gb151) (o := .cells #[u152000] 25 (0, 0)) (by (with_reducible repeat (first | refine blk_drewN ?_ _ | refine blk_drew ?_ | refine blk_alloc ?_ _)); exact BK151.out) hb)
                            have n3_ := Aside0.mk (below_step (by repeat (first | (with_reducible first | exact HB.out | apply below_alloc | apply pw_below_drewN | apply below_drew1 | refine below_set ?_ GE148.out | refine below_set ?_ GE151.out) | exact HB.out)) hb)
                            clear HO_152000
                            clear BK148
                            clear BK151
                            clear HB
                            have HO_152000 := n0_
                            have BK148 := n1_
                            have BK151 := n2_
                            have HB := n3_
                            clear n0_ n1_ n2_ n3_
                            (try clear hb)
                            (try clear hb2)
                            (try clear hk)
                            (try clear hi)
                            refine hK.out _ _ ⟨((HB.out.cell (World.block_lt_of_cell? w _ hw159_0)).trans hw159_0), ((HB.out.cell (World.block_lt_of_cell? w _ hw160_0)).trans hw160_0)⟩ (fun hHeld => ?_)
                            clear hK K
                            refine norm_ (a' := ?_) ?_ ?_
                            rotate_left
                            · show Act.put _ (some 50) _ = _
                              simp only [Act.put, List.setIfInBounds_toArray, List.set_cons_zero, List.set_cons_succ, i64_w, i32_w]
                              rfl
                            refine pure_ (i := 10) (N := some 11) (v := ?_) (a' := ?_) #[true, true, true, true, true, true, true, true, true, true, true] rfl rfl (any_of HT_.out (by kernel_rfl)) (fun _ _ _ h => h) (Or.inl ⟨by rfl, ?_⟩) ?_ ?_
                            rotate_left
                            · intro w'
                              go_simp
                              with_reducible rfl
                            rotate_left
                            · simp only [Act.put, List.setIfInBounds_toArray, List.set_cons_zero, List.set_cons_succ, i64_w, i32_w]
                              rfl
                            refine done_ (done_of HT_.out (by kernel_rfl)) ?_
                            try go_wp2
                            go_roundg k3
                            case measure => have := HJ3.out; have := HK2.out; have := HK3.out; omega
                            case rel => exact ⟨(x9_3), (wrap64 (x10_3 + 1)), (by first | rfl | (simp; done) | (simp [*]; done)), (by first | rfl | (simp; done) | (simp [*]; done)), H', ⟨by have := HJ3.out; have := HK2.out; have := HK3.out; omega⟩, ⟨by (with_reducible repeat (first | apply Kd.S_alloc | apply Kd.S_drewN | apply Kd.S_drew)); exact HO_152000.out⟩, ⟨by (with_reducible repeat (first | refine blk_drewN ?_ _ | refine blk_drew ?_ | refine blk_alloc ?_ _)); exact BK148.out⟩, ⟨by (with_reducible repeat (first | refine blk_drewN ?_ _ | refine blk_drew ?_ | refine blk_alloc ?_ _)); exact BK151.out⟩, ⟨by repeat (first | (with_reducible first | exact HB.out | apply below_alloc | apply pw_below_drewN | apply below_drew1 | refine below_set ?_ GE148.out | refine below_set ?_ GE151.out) | exact HB.out)⟩⟩
                        · rw [if_neg c18] at H
                          exact absurd H (by simp)
                      · rw [if_neg c17] at H
                        exact absurd H (by simp)
                    · rw [if_neg c16] at H
                      exact absurd H (by simp)
                  · rw [if_neg c15] at H
                    have c15b0 : decide (x10_3 < (l1.length : Int)) = false := decide_eq_false c15
                    clear c15
                    by_cases c34 : 0 ≤ x8_2
                    · rw [if_pos c34] at H
                      have c34b0 : decide (0 ≤ x8_2) = true := decide_eq_true c34
                      clear c34
                      by_cases c35 : x8_2 < (l1.length : Int)
                      · rw [if_pos c35] at H
                        have c35b0 : decide (x8_2 < (l1.length : Int)) = true := decide_eq_true c35
                        clear c35
                        replace H := Option.bind_eq_some_iff.mp H
                        obtain ⟨t153, A360, H⟩ := H
                        replace H : (if x152000_2.length < 4398046511104 then (antiquaryref27_Build.l0 k3 a0 l1 a2 (wrap64 (x8_2 + 1)) (x152000_2 ++ [(⟨x9_3, t153⟩ : S61)])) else (none)) = some (r1, r2) := H
                        have A36 := Aside0.mk A360
                        clear A360
                        by_cases c37 : x152000_2.length < 4398046511104
                        · rw [if_pos c37] at H
                          have LMc37 := Aside0.mk c37
                          clear c37
                          obtain ⟨y156, hy156⟩ : ∃ y_ : List (S61), y_ = (x152000_2 ++ [(⟨x9_3, t153⟩ : S61)]) := ⟨_, rfl⟩
                          replace H : (antiquaryref27_Build.l0 k3 a0 l1 a2 (wrap64 (x8_2 + 1)) y156) = some (r1, r2) := by first | (rw [hy156]; with_reducible exact H) | (have H2_ := (Option.bind_some _ _).symm.trans H; rw [hy156]; with_reducible exact H2_) | (have H2_ := (Option.bind_some _ _).symm.trans H; with_reducible exact H2_) | with_reducible exact H | (rw [hy156]; exact H) | exact H
                          have Ny156 := Aside0.mk hy156
                          clear hy156
                          have H' := Aside0.mk H
                          clear H
                          try go_wp2
                          have n0_ := Aside0.mk (Kd.S_drew HO_152000.out)
                          have n1_ := Aside0.mk (blk_drew BK148.out)
                          have n2_ := Aside0.mk (blk_drew BK151.out)
                          have n3_ := Aside0.mk (below_drew1 HB.out)
                          clear HO_152000
                          clear BK148
                          clear BK151
                          clear HB
                          have HO_152000 := n0_
                          have BK148 := n1_
                          have BK151 := n2_
                          have HB := n3_
                          clear n0_ n1_ n2_ n3_
                          have p152 : 0 ≤ (x8_2 : Int) := of_decide_eq_true (by first | (with_reducible assumption) | assumption)
                          have q152 : x8_2 < (l1.length : Int) := of_decide_eq_true (by first | (with_reducible assumption) | assumption)
                          obtain ⟨ad152, A152_0, c152_0, e152, hx152_0, hl152_0, hi152_0⟩ := at_L1 HR1.out x8_2 p152 q152
                          have hw152_0 := hx152_0
                          cases e152
                          replace hx152_0 := (HB.out.cell (World.block_lt_of_cell? w _ hx152_0)).trans hx152_0
                          have HR152_0 := Aside0.mk hi152_0
                          have HC152_0 := Aside0.mk hl152_0
                          clear hi152_0 hl152_0
                          replace p152 := eq_true p152
                          replace q152 := eq_true q152
                          refine start_ (n := 16) (S := fun w' => w'.cell? ⟨gb151, 0, none⟩ = some (u152000) ∧ w'.cell? (ad152.add (x8_2).toNat) = some (.slice A152_0 (rd_L1 l1 x8_2).length c152_0)) (ds := [15]) #[false, false, false, false, false, false, false, false, false, false, false, false, false, false, false, false] (by kernel_rfl) rfl rfl ⟨(blk_cell BK151.out 0).trans rfl, ((HB.out.cell (World.block_lt_of_cell? w _ hw152_0)).trans hw152_0)⟩ (fun hHeld => ?_); refine with_tabW antiquaryref27_Build.tab14 antiquaryref27_Build.bits14 (fun HT_ HW_ => ?_)
                          generalize wr.drew = w38 at HO_152000 BK148 BK151 HB HR152_0 hx152_0 hHeld ⊢
                          refine pure_ (i := 0) (N := some 71) (v := ?_) (a' := ?_) #[true, false, false, false, false, false, false, false, false, false, false, false, false, false, false, false] rfl rfl (any_of HT_.out (by kernel_rfl)) (fun _ _ _ h => h) (Or.inl ⟨by rfl, ?_⟩) ?_ ?_
                          rotate_left
                          · intro w'
                            go_simp
                            with_reducible rfl
                          rotate_left
                          · simp only [Act.put, List.setIfInBounds_toArray, List.set_cons_zero, List.set_cons_succ, i64_w, i32_w]
                            rfl
                          refine pure_ (i := 2) (N := some 73) (v := ?_) (a' := ?_) #[true, false, true, false, false, false, false, false, false, false, false, false, false, false, false, false] rfl rfl (any_of HT_.out (by kernel_rfl)) (fun _ _ _ h => h) (Or.inl ⟨by rfl, ?_⟩) ?_ ?_
                          rotate_left
                          · intro w'
                            go_simp
                            with_reducible rfl
                          rotate_left
                          · simp only [Act.put, List.setIfInBounds_toArray, List.set_cons_zero, List.set_cons_succ, i64_w, i32_w]
                            rfl
                          refine pure_ (i := 3) (N := some 74) (v := ?_) (a' := ?_) #[true, false, true, true, false, false, false, false, false, false, false, false, false, false, false, false] rfl rfl (any_of HT_.out (by kernel_rfl)) (fun _ _ _ h => h) (Or.inl ⟨by rfl, ?_⟩) ?_ ?_
                          rotate_left
                          · intro w'
                            go_simp
                            with_reducible rfl
                          rotate_left
                          · simp only [Act.put, List.setIfInBounds_toArray, List.set_cons_zero, List.set_cons_succ, i64_w, i32_w]
                            rfl
                          refine pure_ (i := 4) (N := some 75) (v := ?_) (a' := ?_) #[true, false, true, true, true, false, false, false, false, false, false, false, false, false, false, false] rfl rfl (any_of HT_.out (by kernel_rfl)) (fun _ _ _ h => h) (Or.inl ⟨by rfl, ?_⟩) ?_ ?_
                          rotate_left
                          · intro w'
                            go_simp
                            with_reducible rfl
                          rotate_left
                          · simp only [Act.put, List.setIfInBounds_toArray, List.set_cons_zero, List.set_cons_succ, i64_w, i32_w]
                            rfl
                          refine pure_ (i := 5) (N := some 76) (v := ?_) (a' := ?_) #[true, false, true, true, true, true, false, false, false, false, false, false, false, false, false, false] rfl rfl (any_of HT_.out (by kernel_rfl)) (fun _ _ _ h => h) (Or.inl ⟨by rfl, ?_⟩) ?_ ?_
                          rotate_left
                          · intro w'
                            go_simp
                            with_reducible rfl
                          rotate_left
                          · simp only [Act.put, List.setIfInBounds_toArray, List.set_cons_zero, List.set_cons_succ, i64_w, i32_w]
                            rfl
                          refine pure_ (i := 6) (N := some 77) (v := ?_) (a' := ?_) #[true, false, true, true, true, true, true, false, false, false, false, false, false, false, false, false] rfl rfl (any_of HT_.out (by kernel_rfl)) (fun _ _ _ h => h) (Or.inl ⟨by rfl, ?_⟩) ?_ ?_
                          rotate_left
                          · intro w'
                            go_simp
                            with_reducible rfl
                          rotate_left
                          · simp only [Act.put, List.setIfInBounds_toArray, List.set_cons_zero, List.set_cons_succ, i64_w, i32_w]
                            rfl
                          refine pure_ (i := 7) (N := some 78) (v := ?_) (a' := ?_) #[true, false, true, true, true, true, true, true, false, false, false, false, false, false, false, false] rfl rfl (any_of HT_.out (by kernel_rfl)) (fun _ _ _ h => h) (Or.inl ⟨by rfl, ?_⟩) ?_ ?_
                          rotate_left
                          · intro w'
                            go_simp
                            with_reducible rfl
                          rotate_left
                          · simp only [Act.put, List.setIfInBounds_toArray, List.set_cons_zero, List.set_cons_succ, i64_w, i32_w]
                            rfl
                          refine pure_ (i := 9) (N := some 80) (v := ?_) (a' := ?_) #[true, false, true, true, true, true, true, true, false, true, false, false, false, false, false, false] rfl rfl (any_of HT_.out (by kernel_rfl)) (fun _ _ _ h => h) (Or.inl ⟨by rfl, ?_⟩) ?_ ?_
                          rotate_left
                          · intro w'
                            go_simp
                            with_reducible rfl
                          rotate_left
                          · simp only [Act.put, List.setIfInBounds_toArray, List.set_cons_zero, List.set_cons_succ, i64_w, i32_w]
                            rfl
                          refine take_ (i := 1) (N := some 72) (v := ?_) (a' := ?_) #[true, true, true, true, true, true, true, true, false, true, false, false, false, false, false, false] rfl rfl (take_ofW HT_.out HW_.out (by kernel_rfl)) (fun _ _ _ h => h) (Or.inl ⟨by rfl, ?_⟩) hHeld ?_ ?_
                          rotate_left
                          · rintro w' ⟨s0, s1⟩
                            go_simp
                            with_reducible rfl
                          rotate_left
                          · simp only [Act.put, List.setIfInBounds_toArray, List.set_cons_zero, List.set_cons_succ, i64_w, i32_w]
                            rfl
                          refine take_ (i := 8) (N := some 79) (v := ?_) (a' := ?_) #[true, true, true, true, true, true, true, true, true, true, false, false, false, false, false, false] rfl rfl (take_ofW HT_.out HW_.out (by kernel_rfl)) (fun _ _ _ h => h) (Or.inl ⟨by rfl, ?_⟩) hHeld ?_ ?_
                          rotate_left
                          · rintro w' ⟨s0, s1⟩
                            go_simp
                            with_reducible rfl
                          rotate_left
                          · simp only [Act.put, List.setIfInBounds_toArray, List.set_cons_zero, List.set_cons_succ, i64_w, i32_w]
                            rfl
                          refine one_ (i := 10) (N := some 81) #[true, true, true, true, true, true, true, true, true, true, true, false, false, false, false, false] rfl rfl (one_of HT_.out (by kernel_rfl)) (by decide) (fun K hK => ?_)
                          refine goes_ Tryz.func48 (by kernel_rfl) rfl #[.int .i64 a0, .slice (some ad152) l1.length c1, .slice A152_0 (rd_L1 l1 x8_2).length c152_0, .int .i64 x9_3] (by rfl) rfl rfl (by (try simp only [List.map_toArray, List.map_cons, List.map_nil]); first | done | rfl | (simp only [List.length_drop, List.length_take]; rfl)) ?_
                          with_reducible refine (antiquaryref27_around.calls k3 a0 _ _ l1 _ _ (rd_L1 l1 x8_2) x9_3 t153 _ ?side1 ?side2 ?side3 ?side4 A36.out).mono ?_
                          (case side1 => repeat (first | exact (Kd.C_below HR1.out HB.out) | (with_reducible refine Kd.C_alloc ?_ _) | (with_reducible refine Kd.C_drewN ?_ _) | (with_reducible refine Kd.C_drew ?_)))
                          (case side2 => exact HC1.out)
                          (case side3 => repeat (first | exact (Kd.C_below HR152_0.out HB.out) | (with_reducible refine Kd.C_alloc ?_ _) | (with_reducible refine Kd.C_drewN ?_ _) | (with_reducible refine Kd.C_drew ?_)))
                          (case side4 => exact HC152_0.out)
                          rintro e w39 ⟨v154, rfl, ho0, hb⟩
                          refine ⟨_, rfl, ?_⟩
                          have n0_ := Aside0.mk (Kd.S_elder' (by (with_reducible repeat (first | apply Kd.S_alloc | apply Kd.S_drewN | apply Kd.S_drew)); exact HO_152000.out) (Kd.R_base ho0) hb)
                          have n1_ := Aside0.mk (Kd.R_lower ho0 (below_size (by repeat (first | (with_reducible first | exact HB.out | apply below_alloc | apply pw_below_drewN | apply below_drew1 | refine below_set ?_ GE148.out | refine below_set ?_ GE151.out) | exact HB.out))))
                          have n2_ := Aside0.mk (blk_below (g := gb148) (o := .cells #[.slice none 0 0, .int .i64 0] 48 (0, 0)) (by (with_reducible repeat (first | refine blk_drewN ?_ _ | refine blk_drew ?_ | refine blk_alloc ?_ _)); exact BK148.out) hb)
                          have n3_ := Aside0.mk (blk_below (g := gb151) (o := .cells #[u152000] 25 (0, 0)) (by (with_reducible repeat (first | refine blk_drewN ?_ _ | refine blk_drew ?_ | refine blk_alloc ?_ _)); exact BK151.out) hb)
                          have n4_ := Aside0.mk (below_step (by repeat (first | (with_reducible first | exact HB.out | apply below_alloc | apply pw_below_drewN | apply below_drew1 | refine below_set ?_ GE148.out | refine below_set ?_ GE151.out) | exact HB.out)) hb)
                          clear HO_152000
                          clear BK148
                          clear BK151
                          clear HB
                          have HO_152000 := n0_
                          have HO155 := n1_
                          have BK148 := n2_
                          have BK151 := n3_
                          have HB := n4_
                          clear n0_ n1_ n2_ n3_ n4_
                          (try clear hb)
                          (try clear hb2)
                          (try clear hk)
                          (try clear hi)
                          (try clear ho0)
                          obtain ⟨Ao40, co40, eo40⟩ := Kd.R_slice HO155.out
                          (first | subst eo40 | (injection eo40 with f1_ f2_ f3_; have f4_ := f1_.symm; have f5_ := f3_.symm; clear f1_ f2_ f3_; subst f4_; subst f5_))
                          refine hK.out _ _ ⟨(blk_cell BK151.out 0).trans rfl, ((HB.out.cell (World.block_lt_of_cell? w _ hw152_0)).trans hw152_0)⟩ (fun hHeld => ?_)
                          clear hK K
                          refine norm_ (a' := ?_) ?_ ?_
                          rotate_left
                          · show Act.put _ (some 81) _ = _
                            simp only [Act.put, List.setIfInBounds_toArray, List.set_cons_zero, List.set_cons_succ, i64_w, i32_w]
                            rfl
                          refine pure_ (i := 11) (N := some 82) (v := ?_) (a' := ?_) #[true, true, true, true, true, true, true, true, true, true, true, true, false, false, false, false] rfl rfl (any_of HT_.out (by kernel_rfl)) (fun _ _ _ h => h) (Or.inl ⟨by rfl, ?_⟩) ?_ ?_
                          rotate_left
                          · intro w'
                            go_simp
                            with_reducible rfl
                          rotate_left
                          · simp only [Act.put, List.setIfInBounds_toArray, List.set_cons_zero, List.set_cons_succ, i64_w, i32_w]
                            rfl
                          refine one_ (i := 12) (N := some 83) #[true, true, true, true, true, true, true, true, true, true, true, true, true, false, false, false] rfl rfl (one_of HT_.out (by kernel_rfl)) (by decide) (fun K hK => ?_)
                          refine value_ (w1 := ?_) (v := ?_) (by rfl) rfl ?_ ?_
                          rotate_left 2
                          · go_simp
                            constructor
                            · rfl
                            · rfl
                          refine hK.out _ _ ⟨(blk_cell (blk_alloc BK151.out _) 0).trans rfl, (World.cell?_alloc_lt _ _ _ (World.block_lt_of_cell? _ _ (((HB.out.cell (World.block_lt_of_cell? w _ hw152_0)).trans hw152_0)))).trans (((HB.out.cell (World.block_lt_of_cell? w _ hw152_0)).trans hw152_0))⟩ (fun hHeld => ?_)
                          clear hK K
                          refine norm_ (a' := ?_) ?_ ?_
                          rotate_left
                          · show Act.put _ (some 83) _ = _
                            simp only [Act.put, List.setIfInBounds_toArray, List.set_cons_zero, List.set_cons_succ, i64_w, i32_w]
                            rfl
                          refine one_ (i := 13) (N := some 84) #[true, true, true, true, true, true, true, true, true, true, true, true, true, true, false, false] rfl rfl (one_of HT_.out (by kernel_rfl)) (by decide) (fun K hK => ?_)
                          refine Kd.S_append_step k61 (w0 := w) w.heap.size (by rfl) (.tmp 72) (.tmp 83) 23 61 (.agg #[(.int .i64 0), (.slice none 0 0)]) 32 rfl Tryz.underlying23 info61 rfl (by decide) (by omega) u152000 x152000_2 (⟨x9_3, t153⟩ : S61) [.int .i64 x9_3, .slice Ao40 t153.length co40] (fun _ => True) (fun k_ => some k_ = (.slice Ao40 t153.length co40 : Value).ownBlock) rfl rfl ?aP (fun k_ hk_ => ((Kd.R_mono (ok' := fun k_ => ((fun _ => True)) k_ ∧ some k_ ≠ (u152000 : Value).ownBlock) (Kd.R_apart' (HO155.out) (Kd.S_typed HO_152000.out) (by decide)) (fun k_ hk => ⟨trivial, hk.2⟩))).1 k_ hk_.symm) ?aF ?aO ?aB ?aS ?aL ?_
                          (case aP => exact k61_mkM _ _ _ (⟨x9_3, t153⟩ : S61) (Kd.R_mono (Kd.R_tight rfl (Kd.R_mono (ok' := fun k_ => ((fun _ => True)) k_ ∧ some k_ ≠ (u152000 : Value).ownBlock) (Kd.R_apart' (HO155.out) (Kd.S_typed HO_152000.out) (by decide)) (fun k_ hk => ⟨trivial, hk.2⟩))) (fun _ h_ => h_)))
                          (case aB => exact (by repeat (first | (with_reducible first | exact HB.out | apply below_alloc | apply pw_below_drewN | apply below_drew1 | refine below_set ?_ GE148.out | refine below_set ?_ GE151.out) | exact HB.out)))
                          (case aF => exact (fun _ _ => trivial))
                          (case aO => exact (by (with_reducible repeat (first | apply Kd.S_alloc | apply Kd.S_drewN | apply Kd.S_drew)); exact Kd.S_mono HO_152000.out (fun k_ hk => ⟨trivial, fun e_ => hk.2 e_⟩)))
                          (case aS => exact (below_size (by repeat (first | (with_reducible first | exact HB.out | apply below_alloc | apply pw_below_drewN | apply below_drew1 | refine below_set ?_ GE148.out | refine below_set ?_ GE151.out) | exact HB.out))))
                          (case aL => have := LMc37.out; omega)
                          intro v157 w41 ho hb hg hat
                          rw [← Ny156.out] at ho
                          have n0_ := Aside0.mk (blk_grown (g := gb148) (o := .cells #[.slice none 0 0, .int .i64 0] 48 (0, 0)) (by (with_reducible repeat (first | refine blk_drewN ?_ _ | refine blk_drew ?_ | refine blk_alloc ?_ _)); exact BK148.out) hg (Kd.S_ne HO_152000.out BK148.out (by decide)))
                          have n1_ := Aside0.mk (blk_grown (g := gb151) (o := .cells #[u152000] 25 (0, 0)) (by (with_reducible repeat (first | refine blk_drewN ?_ _ | refine blk_drew ?_ | refine blk_alloc ?_ _)); exact BK151.out) hg (Kd.S_ne HO_152000.out BK151.out (by decide)))
                          have n2_ := Aside0.mk (hb)
                          have n3_ := Aside0.mk (ho)
                          clear BK148
                          clear BK151
                          clear HB
                          clear HO_152000
                          clear HO155
                          have BK148 := n0_
                          have BK151 := n1_
                          have HB := n2_
                          have HO158 := n3_
                          clear n0_ n1_ n2_ n3_
                          clear ho hb hg hat
                          obtain ⟨Ao42, co42, eo42⟩ := Kd.S_slice HO158.out
                          (first | subst eo42 | (injection eo42 with f1_ f2_ f3_; have f4_ := f1_.symm; have f5_ := f3_.symm; clear f1_ f2_ f3_; subst f4_; subst f5_))
                          refine hK.out _ _ ⟨(blk_cell BK151.out 0).trans rfl, ((HB.out.cell (World.block_lt_of_cell? w _ hw152_0)).trans hw152_0)⟩ (fun hHeld => ?_)
                          clear hK K
                          refine norm_ (a' := ?_) ?_ ?_
                          rotate_left
                          · show Act.put _ (some 84) _ = _
                            simp only [Act.put, List.setIfInBounds_toArray, List.set_cons_zero, List.set_cons_succ, i64_w, i32_w]
                            rfl
                          refine pure_ (i := 14) (N := some 85) (v := ?_) (a' := ?_) #[true, true, true, true, true, true, true, true, true, true, true, true, true, true, true, false] rfl rfl (any_of HT_.out (by kernel_rfl)) (fun _ _ _ h => h) (Or.inl ⟨by rfl, ?_⟩) ?_ ?_
                          rotate_left
                          · intro w'
                            go_simp
                            with_reducible rfl
                          rotate_left
                          · simp only [Act.put, List.setIfInBounds_toArray, List.set_cons_zero, List.set_cons_succ, i64_w, i32_w]
                            rfl
                          refine last_ (i := 15) (N := none) #[true, true, true, true, true, true, true, true, true, true, true, true, true, true, true, true] rfl rfl (one_of HT_.out (by kernel_rfl)) (by decide) (fun K hK => ?_)
                          have hs43 : w41.cell? ⟨gb151, 0, none⟩ = some (u152000) := (blk_cell BK151.out 0).trans rfl
                          have hfs43 := blk_frozen BK151.out 0
                          have hns43_0 := NB148_151.out
                          have hms43_0 := NB151_148.out
                          refine skip_ (w1 := ?_) (by rfl) rfl ?_ ?_
                          rotate_left
                          · go_simp
                            rfl
                          refine hK.out _ _ ?_
                          clear hK K
                          refine done_ (done_of HT_.out (by kernel_rfl)) ?_
                          try go_wp2
                          go_roundg k3
                          case measure => have := HJ3.out; have := HK2.out; have := HK3.out; omega
                          case rel => exact ⟨(wrap64 (x8_2 + 1)), (y156), (.slice Ao42 y156.length co42), (by first | rfl | (simp; done) | (simp [*]; done)), H', ⟨by have := HJ3.out; have := HK2.out; have := HK3.out; omega⟩, ⟨by (with_reducible repeat (first | apply Kd.S_alloc | apply Kd.S_drewN | apply Kd.S_drew)); exact Kd.S_mono (Kd.S_far (p := ⟨gb151, 0, none⟩) (Kd.S_types HO158.out BK151.out (by decide)) (fun _ hk => hk.2) (.slice Ao42 y156.length co42)) (fun _ hk => trivial)⟩, ⟨by (with_reducible repeat (first | refine blk_drewN ?_ _ | refine blk_drew ?_ | refine blk_alloc ?_ _)); refine blk_far ?_ NB148_151.out _; (with_reducible repeat (first | refine blk_drewN ?_ _ | refine blk_drew ?_ | refine blk_alloc ?_ _)); exact BK148.out⟩, ⟨by (with_reducible repeat (first | refine blk_drewN ?_ _ | refine blk_drew ?_ | refine blk_alloc ?_ _)); refine blk_put (cs := #[u152000]) ?_ 0 _ rfl; (with_reducible repeat (first | refine blk_drewN ?_ _ | refine blk_drew ?_ | refine blk_alloc ?_ _)); exact BK151.out⟩, ⟨by repeat (first | (with_reducible first | exact HB.out | apply below_alloc | apply pw_below_drewN | apply below_drew1 | refine below_set ?_ GE148.out | refine below_set ?_ GE151.out) | exact HB.out)⟩⟩
                        · rw [if_neg c37] at H
                          exact absurd H (by simp)
                      · rw [if_neg c35] at H
                        exact absurd H (by simp)
                    · rw [if_neg c34] at H
                      exact absurd H (by simp)
            · rw [if_neg c14] at H
              have c14b0 : decide (x8_2 < (l1.length : Int)) = false := decide_eq_false c14
              clear c14
              simp only [Option.some.injEq, Prod.mk.injEq] at H
              obtain ⟨rfl, rfl⟩ := H
              have hnb44 := NB151_148.out
              have hnc44 := NB148_151.out
              have hcz45_0 : wr.cell? ⟨gb151, 0, none⟩ = some (u152000) := (blk_cell BK151.out 0).trans rfl
              have hfz45_0 := blk_frozen BK151.out 0
              obtain ⟨Ao46, co46, eo46⟩ := Kd.S_slice HO_152000.out
              subst eo46
              have hcz47_0 : wr.cell? ⟨gb148, 0, none⟩ = some (.slice none 0 0) := (blk_cell BK148.out 0).trans rfl
              have hcz47_1 : wr.cell? ⟨gb148, 1, none⟩ = some (.int .i64 0) := (blk_cell BK148.out 1).trans rfl
              have hfz47_0 := blk_frozen BK148.out 0
              have hfz47_1 := blk_frozen BK148.out 1
              go_wp2
              refine bodyPost_ret (results_cell_row rfl _ _ gb148 48 #[.slice Ao46 x152000_2.length co46, .int .i64 0] (0, 0) _ rfl (by (with_reducible repeat (first | refine blk_drewN ?_ _ | refine blk_drew ?_ | refine blk_alloc ?_ _)); refine blk_put (cs := #[.slice Ao46 x152000_2.length co46, .int .i64 0]) ?_ 1 _ rfl; (with_reducible repeat (first | refine blk_drewN ?_ _ | refine blk_drew ?_ | refine blk_alloc ?_ _)); refine blk_put (cs := #[.slice none 0 0, .int .i64 0]) ?_ 0 _ rfl; (with_reducible repeat (first | refine blk_drewN ?_ _ | refine blk_drew ?_ | refine blk_alloc ?_ _)); exact BK148.out) Tryz.underlying48 rfl (by kernel_rfl)) rfl ?_
              exact ⟨_, by first | rfl | (simp [errW_none, errW_some] <;> rfl) | (simp [*, errW_none, errW_some] <;> rfl), by (with_reducible repeat (first | apply Kd.S_alloc | apply Kd.S_drewN | apply Kd.S_drew)); exact Kd.S_mono (Kd.S_far (p := ⟨gb148, 1, none⟩) (Kd.S_far (p := ⟨gb148, 0, none⟩) (Kd.S_types HO_152000.out BK148.out (by decide)) (fun _ hk => hk.2) (.slice Ao46 x152000_2.length co46)) (fun _ hk => hk.2) (.int .i64 0)) (fun _ hk => trivial), by repeat (first | (with_reducible first | exact HB.out | apply below_alloc | apply pw_below_drewN | apply below_drew1 | refine below_set ?_ GE148.out | refine below_set ?_ GE151.out) | exact HB.out)⟩

end Go.Proofs.YthbkomkgciemiaaGreat.PKB
/- The program's Build and the reference's agree. -/
namespace Go.Proofs.YthbkomkgciemiaaGreat.PKB
open Go.Proofs.YthbkomkgciemiaaGreat.RF
open Go.RowKit Go.Proofs.YthbkomkgciemiaaGreatW.PrintWords Go.Proofs.YthbkomkgciemiaaGreatW.PrintLast Go.Proofs.YthbkomkgciemiaaGreatW.PrintMore
attribute [local go_sem] max2_int min2_int max_two min_two max_three min_three max_four min_four
set_option linter.unusedVariables false
set_option linter.unusedSimpArgs false
theorem stepN_neg (m n x : Int) : stepN m n (-x) = stepN m n x := by
  unfold stepN
  by_cases c1 : m = 1
  · rw [if_pos c1, if_pos c1]; unfold mx; repeat' split
    all_goals omega
  · by_cases c2 : m = 2
    · rw [if_neg c1, if_pos c2, if_neg c1, if_pos c2, Int.neg_mul_neg]
    · rw [if_neg c1, if_neg c2, if_neg c1, if_neg c2]; unfold mx; repeat' split
      all_goals omega
theorem fold_neg (m : Int) : ∀ (xs : List Int) (n : Int), (xs.map fun x => -x).foldl (stepN m) n = xs.foldl (stepN m) n
  | [], _ => rfl
  | x :: r, n => by rw [List.map_cons, List.foldl_cons, List.foldl_cons, stepN_neg, fold_neg m r]
theorem subV_neg : ∀ (a b : List Int), subV b a = (subV a b).map fun x => -x
  | [], [] => rfl
  | [], _ :: _ => rfl
  | _ :: _, [] => rfl
  | x :: a, y :: b => by
    have := subV_neg a b
    unfold subV at this ⊢
    rw [List.zipWith_cons_cons, List.zipWith_cons_cons, List.map_cons, this]
    congr 1; omega
theorem keyV_comm (m : Int) (a b : List Int) : keyV m a b = keyV m b a := by
  unfold keyV normF
  rw [subV_neg b a, fold_neg]
theorem filter_mono {p q : Int → Bool} (h : ∀ x, p x = true → q x = true) : ∀ xs : List Int, (xs.filter p).length ≤ (xs.filter q).length
  | [] => by simp
  | x :: r => by
    have := filter_mono h r
    cases hp : p x with
    | true => simp [hp, h x hp]; exact this
    | false => cases hq : q x <;> simp [hp, hq] <;> omega
theorem cnt_sorted : ∀ (s : List Int) (j : Nat), s.Pairwise (· ≤ ·) → j < s.length → (s.filter fun y => decide (y < rd s j)).length ≤ j ∧ j < (s.filter fun y => decide (y ≤ rd s j)).length
  | [], j, _, h => by simp at h
  | a :: r, 0, hs, _ => by
    obtain ⟨ha, _⟩ := List.pairwise_cons.1 hs
    have e : rd (a :: r) ((0 : Nat) : Int) = a := by simp [rd]
    rw [e]
    constructor
    · rw [Nat.le_zero, List.length_eq_zero_iff, List.filter_eq_nil_iff]
      intro y hy
      rcases List.mem_cons.1 hy with rfl | hy
      · simp
      · have := ha y hy; simp; omega
    · simp
  | a :: r, j + 1, hs, hj => by
    obtain ⟨ha, hr⟩ := List.pairwise_cons.1 hs
    have hjr : j < r.length := by simpa using hj
    obtain ⟨h1, h2⟩ := cnt_sorted r j hr hjr
    have e : rd (a :: r) ((j + 1 : Nat) : Int) = rd r j := by unfold rd; simp [show ((j : Int) + 1).toNat = j + 1 by omega]
    rw [e]
    have hle : a ≤ rd r j := ha _ (rd_mem (by omega) (by omega))
    constructor
    · have : ((a :: r).filter fun y => decide (y < rd r j)).length ≤ (r.filter fun y => decide (y < rd r j)).length + 1 := by
        by_cases c : a < rd r j <;> simp [c]
      omega
    · simp [hle]; omega
theorem sortI_perm (xs : List Int) : (sortI xs).Perm xs := List.mergeSort_perm xs _
theorem sortI_sorted (xs : List Int) : (sortI xs).Pairwise (· ≤ ·) := by
  have := List.pairwise_mergeSort (le := fun x y : Int => decide (x ≤ y)) (fun a b c h1 h2 => by simp at *; omega) (fun a b => by simp; omega) xs
  refine this.imp ?_
  intro a b h; simpa using h
theorem kth_cnt (xs : List Int) (j : Nat) (hj : j < xs.length) : (xs.filter fun y => decide (y < rd (sortI xs) j)).length ≤ j ∧ j < (xs.filter fun y => decide (y ≤ rd (sortI xs) j)).length ∧ rd (sortI xs) j ∈ xs := by
  have hl : (sortI xs).length = xs.length := sortI_length xs
  obtain ⟨h1, h2⟩ := cnt_sorted (sortI xs) j (sortI_sorted xs) (by omega)
  have hp := sortI_perm xs
  exact ⟨by rw [(hp.filter _).length_eq] at h1; exact h1, by rw [(hp.filter _).length_eq] at h2; exact h2, hp.mem_iff.1 (rd_mem (by omega) (by omega))⟩
theorem aroundTo_cnt (ks : List Int) (t : Int) : ∀ n : Nat, n ≤ ks.length → (aroundTo ks t n).length = ((ks.take n).filter fun y => decide (y ≤ t)).length
  | 0, _ => by simp [aroundTo]
  | n + 1, h => by
    have ih := aroundTo_cnt ks t n (by omega)
    rw [take_succ_rd ks n (by omega), List.filter_append, List.length_append, ← ih]
    by_cases c : rd ks n ≤ t <;> simp [aroundTo, c]
theorem aroundV_cnt (ks : List Int) (t : Int) : (aroundV ks t).length = (ks.filter fun y => decide (y ≤ t)).length := by
  have := aroundTo_cnt ks t ks.length (Nat.le_refl _)
  rw [List.take_length] at this
  exact this
theorem enough (ks : List Int) (j : Nat) (hj : j < ks.length) (y : Int) : j + 1 ≤ (aroundV ks y).length ↔ rd (sortI ks) j ≤ y := by
  obtain ⟨h1, h2, _⟩ := kth_cnt ks j hj
  rw [aroundV_cnt]
  constructor
  · intro h
    apply Decidable.byContradiction
    intro hn
    have := filter_mono (p := fun z => decide (z ≤ y)) (q := fun z => decide (z < rd (sortI ks) j)) (fun z hz => by simp at hz ⊢; omega) ks
    omega
  · intro h
    have := filter_mono (p := fun z => decide (z ≤ rd (sortI ks) j)) (q := fun z => decide (z ≤ y)) (fun z hz => by simp at hz ⊢; omega) ks
    omega
theorem build_l1 (m : Int) (hm : 1 ≤ m ∧ m ≤ 3) (l : List (List Int)) (hal : ∀ x ∈ l, ∀ v ∈ l, alikeF x v = true) (hl : l.length ≤ 4096) (want : Int) (hw : 1 ≤ want) (i : Nat) (hi : i < l.length) (acc : List Hd) (hacc : acc.length ≤ 4096) (res : List Hd × Int)
    (k0 : Nat) (h0 : antiquaryref27_Build.l0 k0 m l want ((i : Int) + 1) (acc ++ [hoodV m l want (rdL l i)]) = some res) (d : Nat) : ∀ (p : Nat) (R : Int), p + d = l.length → rd (sortI (keysV m l (rdL l i))) (mn want l.length - 1) ≤ R → (∀ q : Nat, q < p → rd (sortI (keysV m l (rdL l i))) (mn want l.length - 1) ≤ rd (keysV m l (rdL l i)) q → R ≤ rd (keysV m l (rdL l i)) q) →
    ∃ k, antiquaryref27_Build.l1 k m l want i R p acc = some res := by
  have hmem : rdL l i ∈ l := rdL_mem (by omega) (by omega)
  have hkl := keysV_length m l (rdL l i)
  obtain ⟨j, hj⟩ : ∃ j : Nat, mn want l.length - 1 = (j : Int) := ⟨(mn want l.length - 1).toNat, by unfold mn; split <;> omega⟩
  have hjl : j < (keysV m l (rdL l i)).length := by
    have : mn want l.length ≤ (l.length : Int) := by unfold mn; split <;> omega
    omega
  obtain ⟨_, _, hx3⟩ := kth_cnt (keysV m l (rdL l i)) j hjl
  have hen := enough (keysV m l (rdL l i)) j hjl
  have hhood : hoodV m l want (rdL l i) = ⟨rd (sortI (keysV m l (rdL l i))) j, aroundV (keysV m l (rdL l i)) (rd (sortI (keysV m l (rdL l i))) j)⟩ := by unfold hoodV; rw [hj]
  rw [hj]
  rw [hhood] at h0
  induction d with
  | zero =>
    intro p R hp hR hq
    have hRx : R = rd (sortI (keysV m l (rdL l i))) j := by
      obtain ⟨q, hq1, hq2⟩ := mem_iff_rd.1 hx3
      have := hq q (by omega) (by omega)
      omega
    obtain ⟨k2, h2⟩ := around27_ex m hm l (rdL l i) (fun x hx => hal x hx _ hmem) hl R
    refine ⟨k0 + k2 + 1, ?_⟩
    unfold antiquaryref27_Build.l1
    rw [if_neg (by omega), if_pos (by omega), if_pos (by omega), rd_L1_eq, up_le (antiquaryref27_around.mono _ _ _ _) h2 (show k2 ≤ k0 + k2 by omega), Option.bind_some, if_pos (by omega), w64 (by omega), hRx]
    exact up_le (f := fun k => antiquaryref27_Build.l0 k m l want ((i : Int) + 1) (acc ++ [⟨rd (sortI (keysV m l (rdL l i))) j, aroundV (keysV m l (rdL l i)) (rd (sortI (keysV m l (rdL l i))) j)⟩])) (fun k => (antiquaryref27_Build.mono_l k).2.1 _ _ _ _ _) h0 (show k0 ≤ k0 + k2 by omega)
  | succ d ih =>
    intro p R hp hR hq
    obtain ⟨k1, h1⟩ := key04_ex m hm (rdL l i) (rdL l p) (hal _ hmem _ (rdL_mem (by omega) (by omega)))
    have hkey : keyV m (rdL l i) (rdL l p) = rd (keysV m l (rdL l i)) p := by rw [keyV_comm, rd_keysV m l (rdL l i) p (by omega) (by omega)]
    rw [hkey] at h1
    have stay : ¬ (rd (keysV m l (rdL l i)) p < R ∧ rd (sortI (keysV m l (rdL l i))) j ≤ rd (keysV m l (rdL l i)) p) → ∃ k, antiquaryref27_Build.l1 k m l want i R ((p : Int) + 1) acc = some res := by
      intro hn
      obtain ⟨k, h⟩ := ih (p + 1) R (by omega) hR (fun q hq1 hq2 => by
        rcases Nat.lt_or_ge q p with h | h
        · exact hq q h hq2
        · have : q = p := by omega
          subst this; omega)
      exact ⟨k, h⟩
    obtain ⟨k2, h2⟩ := around27_ex m hm l (rdL l i) (fun x hx => hal x hx _ hmem) hl (rd (keysV m l (rdL l i)) p)
    have henp := hen (rd (keysV m l (rdL l i)) p)
    by_cases c1 : rd (keysV m l (rdL l i)) p < R
    · by_cases c2 : rd (sortI (keysV m l (rdL l i))) j ≤ rd (keysV m l (rdL l i)) p
      · obtain ⟨k, h⟩ := ih (p + 1) (rd (keysV m l (rdL l i)) p) (by omega) c2 (fun q hq1 hq2 => by
          rcases Nat.lt_or_ge q p with h | h
          · have := hq q h hq2; omega
          · have : q = p := by omega
            subst this; omega)
        refine ⟨k + k1 + k2 + 1, ?_⟩
        have hlen := henp.2 c2
        unfold antiquaryref27_Build.l1
        rw [if_pos (by omega), if_pos (by omega), if_pos (by omega), if_pos (by omega), rd_L1_eq, rd_L1_eq, up_le (antiquaryref04_Key.mono _ _ _) h1 (show k1 ≤ k + k1 + k2 by omega), Option.bind_some, if_pos c1, up_le (antiquaryref27_around.mono _ _ _ _) h2 (show k2 ≤ k + k1 + k2 by omega), Option.bind_some, if_pos (by omega), w64 (by omega)]
        exact up_le (f := fun k => antiquaryref27_Build.l1 k m l want i (rd (keysV m l (rdL l i)) p) ((p : Int) + 1) acc) (fun k => (antiquaryref27_Build.mono_l k).2.2 _ _ _ _ _ _ _) h (by omega)
      · obtain ⟨k, h⟩ := stay (by omega)
        refine ⟨k + k1 + k2 + 1, ?_⟩
        have hlen : ¬ j + 1 ≤ (aroundV (keysV m l (rdL l i)) (rd (keysV m l (rdL l i)) p)).length := fun hh => c2 (henp.1 hh)
        unfold antiquaryref27_Build.l1
        rw [if_pos (by omega), if_pos (by omega), if_pos (by omega), if_pos (by omega), rd_L1_eq, rd_L1_eq, up_le (antiquaryref04_Key.mono _ _ _) h1 (show k1 ≤ k + k1 + k2 by omega), Option.bind_some, if_pos c1, up_le (antiquaryref27_around.mono _ _ _ _) h2 (show k2 ≤ k + k1 + k2 by omega), Option.bind_some, if_neg (by omega), w64 (by omega)]
        exact up_le (f := fun k => antiquaryref27_Build.l1 k m l want i R ((p : Int) + 1) acc) (fun k => (antiquaryref27_Build.mono_l k).2.2 _ _ _ _ _ _ _) h (by omega)
    · obtain ⟨k, h⟩ := stay (by omega)
      refine ⟨k + k1 + 1, ?_⟩
      unfold antiquaryref27_Build.l1
      rw [if_pos (by omega), if_pos (by omega), if_pos (by omega), if_pos (by omega), rd_L1_eq, rd_L1_eq, up_le (antiquaryref04_Key.mono _ _ _) h1 (show k1 ≤ k + k1 by omega), Option.bind_some, if_neg c1, w64 (by omega)]
      exact up_le (f := fun k => antiquaryref27_Build.l1 k m l want i R ((p : Int) + 1) acc) (fun k => (antiquaryref27_Build.mono_l k).2.2 _ _ _ _ _ _ _) h (by omega)
end Go.Proofs.YthbkomkgciemiaaGreat.PKB
/- sanity returns true. -/
namespace Go.Proofs.YthbkomkgciemiaaGreat.PKB
open Go.Proofs.YthbkomkgciemiaaGreat.RF
open Go.RowKit Go.Proofs.YthbkomkgciemiaaGreatW.PrintWords Go.Proofs.YthbkomkgciemiaaGreatW.PrintLast Go.Proofs.YthbkomkgciemiaaGreatW.PrintMore
attribute [local go_sem] max2_int min2_int max_two min_two max_three min_three max_four min_four
set_option linter.unusedVariables false
set_option linter.unusedSimpArgs false
theorem high_some (m : Int) (hm : m ≠ 2) (a b : Int) (ha : keyB a = true) (hb : keyB b = true) : ∃ r, metric_High.f m a b = some r := by
  unfold metric_High.f
  rw [if_pos ⟨ha, hb⟩, if_neg hm]
  exact ⟨_, rfl⟩
theorem keyB5 (x : Int) (hx : x = 4 ∨ x = 5 ∨ x = 6) (a : Int) (h0 : 0 ≤ a) (h1 : a < (l5.length : Int)) : keyB (rd (keysV 1 l5 [x]) a) = true := by
  have h2 : a < 5 := h1
  have h3 : a = 0 ∨ a = 1 ∨ a = 2 ∨ a = 3 ∨ a = 4 := by omega
  rcases hx with rfl | rfl | rfl <;> rcases h3 with rfl | rfl | rfl | rfl | rfl <;> decide
set_option maxHeartbeats 8000000 in
set_option maxRecDepth 100000 in
theorem sanityC (w : World) : Calls Tryz.prog 8 #[] w fun e w' => e = .returned (.bool true) ∧ Below w.heap.size w w' := by
  have hu := Tryz.underlying61
  have hu2 := Tryz.underlying25
  obtain ⟨hL, hB⟩ := lay_l5 w
  go_enter Tryz.func8, Tryz.ntmps8
  go_wp2_with fail
  generalize ((((((w.alloc (.cells #[.int .i64 0] 3)).alloc (.cells #[.int .i64 3] 3)).alloc (.cells #[.int .i64 4] 3)).alloc (.cells #[.int .i64 9] 3)).alloc (.cells #[.int .i64 10] 3)).alloc (.cells #[.slice (some ⟨w.heap.size, 0, none⟩) 1 1, .slice (some ⟨w.heap.size + 1, 0, none⟩) 1 1, .slice (some ⟨w.heap.size + 1 + 1, 0, none⟩) 1 1, .slice (some ⟨w.heap.size + 1 + 1 + 1, 0, none⟩) 1 1, .slice (some ⟨w.heap.size + 1 + 1 + 1 + 1, 0, none⟩) 1 1] 26)) = W0 at hL hB ⊢
  generalize hbl : w.heap.size + 1 + 1 + 1 + 1 + 1 = bl at hL ⊢
  refine (graph_Build.calls 1 (some ⟨bl, 0, none⟩) 5 l5 2 g5 0 W0 hL (by decide) build5).mono ?_
  rintro e w1 ⟨v0, rfl, hR, hb⟩
  obtain ⟨Ag, cg, rfl⟩ := Kd.R_slice hR
  have HL1 := Aside0.mk (Kd.C_below hL hb)
  have HG1 := Aside0.mk (Kd.R_reads' hR).2.2
  have hcg := (Kd.R_reads' hR).2.1
  have HB1 := Aside0.mk (below_step hB hb)
  clear hL hB hb hR hbl
  obtain ⟨hG5, hB5⟩ := lay_g5 (w1.alloc (.cells #[.slice Ag g5.length cg] 25))
  have hX5 := blk_below (blk_new w1 (.cells #[.slice Ag g5.length cg] 25)) hB5
  have hB5' := (below_alloc (Below.refl w1.heap.size w1) (.cells #[.slice Ag g5.length cg] 25)).trans (hB5.mono (by simp))
  simp only [World.size_alloc] at hG5 hB5' hX5
  have HG5 := Aside0.mk hG5
  have HB5 := Aside0.mk hB5'
  have HX5 := Aside0.mk hX5
  clear hG5 hB5 hB5' hX5
  go_wp2_with fail
  refine (antiquaryref27_SameGraph.calls 60 Ag cg g5 _ 5 g5 true _ (Kd.C_alloc (Kd.C_below HG1.out HB5.out) _) hcg (Kd.C_alloc HG5.out _) (by decide) (by kernel_rfl)).mono ?_
  rintro e w2 ⟨rfl, hb⟩
  have HX2 := Aside0.mk (blk_below (blk_alloc HX5.out _) hb)
  have hb12 := below_step (below_alloc HB5.out _) hb
  have HL2 := Aside0.mk (Kd.C_below HL1.out hb12)
  have HG2 := Aside0.mk (Kd.C_below HG1.out hb12)
  have HB2 := Aside0.mk (below_step HB1.out hb12)
  clear hb hb12 HB5 HG5 HX5 HL1 HG1 HB1
  have cx := cell_of_blk HX2.out
  have cy : ∀ o, (w2.alloc o).cell? ⟨w1.heap.size, 0, none⟩ = some (.slice Ag g5.length cg) := fun o => cell_of_blk (blk_alloc HX2.out o)
  go_wp2_with fail
  refine (graph_Valid.calls 60 5 Ag cg g5 true w2 HG2.out hcg (by kernel_rfl)).mono ?_
  rintro e w3 ⟨rfl, hb⟩
  have hbk := below_step (Below.refl w2.heap.size w2) hb
  have HX3 := Aside0.mk (blk_below HX2.out hbk)
  have HL3 := Aside0.mk (Kd.C_below HL2.out hbk)
  have HG3 := Aside0.mk (Kd.C_below HG2.out hbk)
  have HB3 := Aside0.mk (below_step HB2.out hbk)
  clear hb hbk cx cy HX2 HL2 HG2 HB2 
  have cx := cell_of_blk HX3.out
  have cy : ∀ o, (w3.alloc o).cell? ⟨w1.heap.size, 0, none⟩ = some (.slice Ag g5.length cg) := fun o => cell_of_blk (blk_alloc HX3.out o)
  go_wp2_with fail
  refine (graph_Valid.calls 60 4 Ag cg g5 false w3 HG3.out hcg (by kernel_rfl)).mono ?_
  rintro e w4 ⟨rfl, hb⟩
  have hbk := below_step (Below.refl w3.heap.size w3) hb
  have HX4 := Aside0.mk (blk_below HX3.out hbk)
  have HL4 := Aside0.mk (Kd.C_below HL3.out hbk)
  have HG4 := Aside0.mk (Kd.C_below HG3.out hbk)
  have HB4 := Aside0.mk (below_step HB3.out hbk)
  clear hb hbk cx cy HX3 HL3 HG3 HB3 
  have cx := cell_of_blk HX4.out
  have cy : ∀ o, (w4.alloc o).cell? ⟨w1.heap.size, 0, none⟩ = some (.slice Ag g5.length cg) := fun o => cell_of_blk (blk_alloc HX4.out o)
  go_wp2_with fail
  refine (walkOkC 1 (some ⟨bl, 0, none⟩) 5 l5 Ag cg g5 _ 1 [5] 0 _ (Kd.C_alloc HL4.out _) (by decide) (Kd.C_alloc HG4.out _) hcg (C_ints _ _ [5] _ _ (blk_new _ _) (by decide)) (by decide) (beg5 5 0 (by kernel_rfl) (by decide) (by decide))).mono ?_
  rintro e w5 ⟨v0, rfl, hR, hb⟩
  simp only [show l5.length = 5 from rfl, walk5] at hR ⊢
  obtain ⟨ARW, cRW, rfl⟩ := Kd.R_slice hR
  have RW5 := Aside0.mk (Kd.R_reads' hR).2.2
  have hRW := (Kd.R_reads' hR).2.1
  have hbk := below_step (below_alloc (Below.refl w4.heap.size w4) _) hb
  have HX5 := Aside0.mk (blk_below HX4.out hbk)
  have HL5 := Aside0.mk (Kd.C_below HL4.out hbk)
  have HG5 := Aside0.mk (Kd.C_below HG4.out hbk)
  have HB5 := Aside0.mk (below_step HB4.out hbk)
  clear hb hbk cx cy hR HX4 HL4 HG4 HB4 
  have cx := cell_of_blk HX5.out
  have cy : ∀ o, (w5.alloc o).cell? ⟨w1.heap.size, 0, none⟩ = some (.slice Ag g5.length cg) := fun o => cell_of_blk (blk_alloc HX5.out o)
  go_wp2_with fail
  refine (withinOkC 1 (some ⟨bl, 0, none⟩) 5 l5 Ag cg g5 _ 1 [4] 0 1 _ (Kd.C_alloc HL5.out _) (by decide) (Kd.C_alloc HG5.out _) hcg (C_ints _ _ [4] _ _ (blk_new _ _) (by decide)) (by decide) (beg5 4 0 (by kernel_rfl) (by decide) (by decide)) (by decide) (by decide) (fun a h0 h1 => high_some 1 (by decide) _ _ (keyB5 4 (by decide) a h0 h1) (by decide))).mono ?_
  rintro e w6 ⟨v0, rfl, hR, hb⟩
  simp only [show l5.length = 5 from rfl, within4] at hR ⊢
  obtain ⟨ARA, cRA, rfl⟩ := Kd.R_slice hR
  have RA6 := Aside0.mk (Kd.R_reads' hR).2.2
  have hRA := (Kd.R_reads' hR).2.1
  have hbk := below_step (below_alloc (Below.refl w5.heap.size w5) _) hb
  have HX6 := Aside0.mk (blk_below HX5.out hbk)
  have HL6 := Aside0.mk (Kd.C_below HL5.out hbk)
  have HG6 := Aside0.mk (Kd.C_below HG5.out hbk)
  have HB6 := Aside0.mk (below_step HB5.out hbk)
  have RW6 := Aside0.mk (Kd.C_below RW5.out hbk)
  clear hb hbk cx cy hR HX5 HL5 HG5 HB5 RW5
  have cx := cell_of_blk HX6.out
  have cy : ∀ o, (w6.alloc o).cell? ⟨w1.heap.size, 0, none⟩ = some (.slice Ag g5.length cg) := fun o => cell_of_blk (blk_alloc HX6.out o)
  go_wp2_with fail
  refine (withinOkC 1 (some ⟨bl, 0, none⟩) 5 l5 Ag cg g5 _ 1 [6] 0 2 _ (Kd.C_alloc HL6.out _) (by decide) (Kd.C_alloc HG6.out _) hcg (C_ints _ _ [6] _ _ (blk_new _ _) (by decide)) (by decide) (beg5 6 0 (by kernel_rfl) (by decide) (by decide)) (by decide) (by decide) (fun a h0 h1 => high_some 1 (by decide) _ _ (keyB5 6 (by decide) a h0 h1) (by decide))).mono ?_
  rintro e w7 ⟨v0, rfl, hR, hb⟩
  simp only [show l5.length = 5 from rfl, within6] at hR ⊢
  obtain ⟨ARB, cRB, rfl⟩ := Kd.R_slice hR
  have RB7 := Aside0.mk (Kd.R_reads' hR).2.2
  have hRB := (Kd.R_reads' hR).2.1
  have hbk := below_step (below_alloc (Below.refl w6.heap.size w6) _) hb
  have HX7 := Aside0.mk (blk_below HX6.out hbk)
  have HL7 := Aside0.mk (Kd.C_below HL6.out hbk)
  have HG7 := Aside0.mk (Kd.C_below HG6.out hbk)
  have HB7 := Aside0.mk (below_step HB6.out hbk)
  have RW7 := Aside0.mk (Kd.C_below RW6.out hbk)
  have RA7 := Aside0.mk (Kd.C_below RA6.out hbk)
  clear hb hbk cx cy hR HX6 HL6 HG6 HB6 RW6 RA6
  have cx := cell_of_blk HX7.out
  have cy : ∀ o, (w7.alloc o).cell? ⟨w1.heap.size, 0, none⟩ = some (.slice Ag g5.length cg) := fun o => cell_of_blk (blk_alloc HX7.out o)
  go_wp2_with fail
  refine (nearestOkC 1 (some ⟨bl, 0, none⟩) 5 l5 Ag cg g5 _ 1 [4] 0 2 _ (Kd.C_alloc HL7.out _) (by decide) (Kd.C_alloc HG7.out _) hcg (C_ints _ _ [4] _ _ (blk_new _ _) (by decide)) (by decide) (beg5 4 0 (by kernel_rfl) (by decide) (by decide)) (by decide) (by decide) (by decide) (fun a b h0 h1 h2 h3 => high_some 1 (by decide) _ _ (keyB5 4 (by decide) a h0 h1) (keyB5 4 (by decide) b h2 h3))).mono ?_
  rintro e w8 ⟨v0, rfl, hR, hb⟩
  simp only [show l5.length = 5 from rfl, nearest4] at hR ⊢
  obtain ⟨ARC, cRC, rfl⟩ := Kd.R_slice hR
  have RC8 := Aside0.mk (Kd.R_reads' hR).2.2
  have hRC := (Kd.R_reads' hR).2.1
  have hbk := below_step (below_alloc (Below.refl w7.heap.size w7) _) hb
  have HX8 := Aside0.mk (blk_below HX7.out hbk)
  have HL8 := Aside0.mk (Kd.C_below HL7.out hbk)
  have HG8 := Aside0.mk (Kd.C_below HG7.out hbk)
  have HB8 := Aside0.mk (below_step HB7.out hbk)
  have RW8 := Aside0.mk (Kd.C_below RW7.out hbk)
  have RA8 := Aside0.mk (Kd.C_below RA7.out hbk)
  have RB8 := Aside0.mk (Kd.C_below RB7.out hbk)
  clear hb hbk cx cy hR HX7 HL7 HG7 HB7 RW7 RA7 RB7
  have cx := cell_of_blk HX8.out
  have cy : ∀ o, (w8.alloc o).cell? ⟨w1.heap.size, 0, none⟩ = some (.slice Ag g5.length cg) := fun o => cell_of_blk (blk_alloc HX8.out o)
  go_wp2_with fail
  refine (nearestOkC 1 (some ⟨bl, 0, none⟩) 5 l5 Ag cg g5 _ 1 [4] 4 2 _ (Kd.C_alloc HL8.out _) (by decide) (Kd.C_alloc HG8.out _) hcg (C_ints _ _ [4] _ _ (blk_new _ _) (by decide)) (by decide) (beg5 4 4 (by kernel_rfl) (by decide) (by decide)) (by decide) (by decide) (by decide) (fun a b h0 h1 h2 h3 => high_some 1 (by decide) _ _ (keyB5 4 (by decide) a h0 h1) (keyB5 4 (by decide) b h2 h3))).mono ?_
  rintro e w9 ⟨v0, rfl, hR, hb⟩
  simp only [show l5.length = 5 from rfl, nearest44] at hR ⊢
  obtain ⟨ARD, cRD, rfl⟩ := Kd.R_slice hR
  have RD9 := Aside0.mk (Kd.R_reads' hR).2.2
  have hRD := (Kd.R_reads' hR).2.1
  have hbk := below_step (below_alloc (Below.refl w8.heap.size w8) _) hb
  have HX9 := Aside0.mk (blk_below HX8.out hbk)
  have HL9 := Aside0.mk (Kd.C_below HL8.out hbk)
  have HG9 := Aside0.mk (Kd.C_below HG8.out hbk)
  have HB9 := Aside0.mk (below_step HB8.out hbk)
  have RW9 := Aside0.mk (Kd.C_below RW8.out hbk)
  have RA9 := Aside0.mk (Kd.C_below RA8.out hbk)
  have RB9 := Aside0.mk (Kd.C_below RB8.out hbk)
  have RC9 := Aside0.mk (Kd.C_below RC8.out hbk)
  clear hb hbk cx cy hR HX8 HL8 HG8 HB8 RW8 RA8 RB8 RC8
  have cx := cell_of_blk HX9.out
  have cy : ∀ o, (w9.alloc o).cell? ⟨w1.heap.size, 0, none⟩ = some (.slice Ag g5.length cg) := fun o => cell_of_blk (blk_alloc HX9.out o)
  go_wp2_with fail
  refine (antiquaryref27_Same.calls 20 ARW cRW [0, 1, 2] _ 3 [0, 1, 2] true _ (Kd.C_alloc RW9.out _) hRW (C_ints _ _ [0, 1, 2] _ _ (blk_new _ _) (by decide)) (by decide) (by kernel_rfl)).mono ?_
  rintro e w10 ⟨rfl, hd⟩
  have hb := hd.below
  clear hd
  have hbk := below_step (below_alloc (Below.refl w9.heap.size w9) _) hb
  have HX10 := Aside0.mk (blk_below HX9.out hbk)
  have HL10 := Aside0.mk (Kd.C_below HL9.out hbk)
  have HG10 := Aside0.mk (Kd.C_below HG9.out hbk)
  have HB10 := Aside0.mk (below_step HB9.out hbk)
  have RW10 := Aside0.mk (Kd.C_below RW9.out hbk)
  have RA10 := Aside0.mk (Kd.C_below RA9.out hbk)
  have RB10 := Aside0.mk (Kd.C_below RB9.out hbk)
  have RC10 := Aside0.mk (Kd.C_below RC9.out hbk)
  have RD10 := Aside0.mk (Kd.C_below RD9.out hbk)
  clear hb hbk cx cy HX9 HL9 HG9 HB9 RW9 RA9 RB9 RC9 RD9
  have cx := cell_of_blk HX10.out
  have cy : ∀ o, (w10.alloc o).cell? ⟨w1.heap.size, 0, none⟩ = some (.slice Ag g5.length cg) := fun o => cell_of_blk (blk_alloc HX10.out o)
  go_wp2_with fail
  refine (antiquaryref27_Same.calls 20 ARA cRA [1, 2] _ 2 [1, 2] true _ (Kd.C_alloc RA10.out _) hRA (C_ints _ _ [1, 2] _ _ (blk_new _ _) (by decide)) (by decide) (by kernel_rfl)).mono ?_
  rintro e w11 ⟨rfl, hd⟩
  have hb := hd.below
  clear hd
  have hbk := below_step (below_alloc (Below.refl w10.heap.size w10) _) hb
  have HX11 := Aside0.mk (blk_below HX10.out hbk)
  have HL11 := Aside0.mk (Kd.C_below HL10.out hbk)
  have HG11 := Aside0.mk (Kd.C_below HG10.out hbk)
  have HB11 := Aside0.mk (below_step HB10.out hbk)
  have RW11 := Aside0.mk (Kd.C_below RW10.out hbk)
  have RA11 := Aside0.mk (Kd.C_below RA10.out hbk)
  have RB11 := Aside0.mk (Kd.C_below RB10.out hbk)
  have RC11 := Aside0.mk (Kd.C_below RC10.out hbk)
  have RD11 := Aside0.mk (Kd.C_below RD10.out hbk)
  clear hb hbk cx cy HX10 HL10 HG10 HB10 RW10 RA10 RB10 RC10 RD10
  have cx := cell_of_blk HX11.out
  have cy : ∀ o, (w11.alloc o).cell? ⟨w1.heap.size, 0, none⟩ = some (.slice Ag g5.length cg) := fun o => cell_of_blk (blk_alloc HX11.out o)
  go_wp2_with fail
  refine (antiquaryref27_Same.calls 20 ARC cRC [2, 1] _ 2 [2, 1] true _ (Kd.C_alloc RC11.out _) hRC (C_ints _ _ [2, 1] _ _ (blk_new _ _) (by decide)) (by decide) (by kernel_rfl)).mono ?_
  rintro e w12 ⟨rfl, hd⟩
  have hb := hd.below
  clear hd
  have hbk := below_step (below_alloc (Below.refl w11.heap.size w11) _) hb
  have HX12 := Aside0.mk (blk_below HX11.out hbk)
  have HL12 := Aside0.mk (Kd.C_below HL11.out hbk)
  have HG12 := Aside0.mk (Kd.C_below HG11.out hbk)
  have HB12 := Aside0.mk (below_step HB11.out hbk)
  have RW12 := Aside0.mk (Kd.C_below RW11.out hbk)
  have RA12 := Aside0.mk (Kd.C_below RA11.out hbk)
  have RB12 := Aside0.mk (Kd.C_below RB11.out hbk)
  have RC12 := Aside0.mk (Kd.C_below RC11.out hbk)
  have RD12 := Aside0.mk (Kd.C_below RD11.out hbk)
  clear hb hbk cx cy HX11 HL11 HG11 HB11 RW11 RA11 RB11 RC11 RD11
  have cx := cell_of_blk HX12.out
  have cy : ∀ o, (w12.alloc o).cell? ⟨w1.heap.size, 0, none⟩ = some (.slice Ag g5.length cg) := fun o => cell_of_blk (blk_alloc HX12.out o)
  go_wp2_with fail
  refine (antiquaryref27_Same.calls 20 ARD cRD [3, 4] _ 2 [3, 4] true _ (Kd.C_alloc RD12.out _) hRD (C_ints _ _ [3, 4] _ _ (blk_new _ _) (by decide)) (by decide) (by kernel_rfl)).mono ?_
  rintro e w13 ⟨rfl, hd⟩
  have hb := hd.below
  clear hd
  have hbk := below_step (below_alloc (Below.refl w12.heap.size w12) _) hb
  have HX13 := Aside0.mk (blk_below HX12.out hbk)
  have HL13 := Aside0.mk (Kd.C_below HL12.out hbk)
  have HG13 := Aside0.mk (Kd.C_below HG12.out hbk)
  have HB13 := Aside0.mk (below_step HB12.out hbk)
  have RW13 := Aside0.mk (Kd.C_below RW12.out hbk)
  have RA13 := Aside0.mk (Kd.C_below RA12.out hbk)
  have RB13 := Aside0.mk (Kd.C_below RB12.out hbk)
  have RC13 := Aside0.mk (Kd.C_below RC12.out hbk)
  have RD13 := Aside0.mk (Kd.C_below RD12.out hbk)
  clear hb hbk cx cy HX12 HL12 HG12 HB12 RW12 RA12 RB12 RC12 RD12
  have cx := cell_of_blk HX13.out
  have cy : ∀ o, (w13.alloc o).cell? ⟨w1.heap.size, 0, none⟩ = some (.slice Ag g5.length cg) := fun o => cell_of_blk (blk_alloc HX13.out o)
  go_wp2_with fail
  refine (coversC 1 1 0 1 1 w13 (by kernel_rfl)).mono ?_
  rintro e w14 ⟨rfl, hb⟩
  have hbk := below_step (Below.refl w13.heap.size w13) hb
  have HX14 := Aside0.mk (blk_below HX13.out hbk)
  have HL14 := Aside0.mk (Kd.C_below HL13.out hbk)
  have HG14 := Aside0.mk (Kd.C_below HG13.out hbk)
  have HB14 := Aside0.mk (below_step HB13.out hbk)
  have RW14 := Aside0.mk (Kd.C_below RW13.out hbk)
  have RA14 := Aside0.mk (Kd.C_below RA13.out hbk)
  have RB14 := Aside0.mk (Kd.C_below RB13.out hbk)
  have RC14 := Aside0.mk (Kd.C_below RC13.out hbk)
  have RD14 := Aside0.mk (Kd.C_below RD13.out hbk)
  clear hb hbk cx cy HX13 HL13 HG13 HB13 RW13 RA13 RB13 RC13 RD13
  have cx := cell_of_blk HX14.out
  have cy : ∀ o, (w14.alloc o).cell? ⟨w1.heap.size, 0, none⟩ = some (.slice Ag g5.length cg) := fun o => cell_of_blk (blk_alloc HX14.out o)
  go_wp2_with fail
  refine (coversC 1 1 1 1 2 w14 (by kernel_rfl)).mono ?_
  rintro e w15 ⟨rfl, hb⟩
  have hbk := below_step (Below.refl w14.heap.size w14) hb
  have HX15 := Aside0.mk (blk_below HX14.out hbk)
  have HL15 := Aside0.mk (Kd.C_below HL14.out hbk)
  have HG15 := Aside0.mk (Kd.C_below HG14.out hbk)
  have HB15 := Aside0.mk (below_step HB14.out hbk)
  have RW15 := Aside0.mk (Kd.C_below RW14.out hbk)
  have RA15 := Aside0.mk (Kd.C_below RA14.out hbk)
  have RB15 := Aside0.mk (Kd.C_below RB14.out hbk)
  have RC15 := Aside0.mk (Kd.C_below RC14.out hbk)
  have RD15 := Aside0.mk (Kd.C_below RD14.out hbk)
  clear hb hbk cx cy HX14 HL14 HG14 HB14 RW14 RA14 RB14 RC14 RD14
  go_wp2
  go_ret
  exact ⟨ret_bool (by simp), HB15.out⟩
end Go.Proofs.YthbkomkgciemiaaGreat.PKB
/- The law GraphBuildsAsSpecified walked: it returns true, if what it computes agrees. -/
namespace Go.Proofs.YthbkomkgciemiaaGreat.PKB
open Go.Proofs.YthbkomkgciemiaaGreat.RF
open Go.RowKit Go.Proofs.YthbkomkgciemiaaGreatW.PrintWords Go.Proofs.YthbkomkgciemiaaGreatW.PrintLast Go.Proofs.YthbkomkgciemiaaGreatW.PrintMore
attribute [local go_sem] max2_int min2_int max_two min_two max_three min_three max_four min_four
set_option linter.unusedVariables false
set_option linter.unusedSimpArgs false
open Go.RowKit
open Go.Sort (grow)
attribute [local go_sem] Oper.semAt_some
structure Agree (m : Int) (l : List (List Int)) (want n : Int) (g : List Hd) : Prop where
  all : ∃ gs e i f b, graph_Build.f m l want = some (gs, e) ∧ (∃ k, antiquaryref27_Build.f k m l want = some (gs, e)) ∧ (∃ k, graph_Check.f k m l g = some (i, f)) ∧ (∃ k, antiquaryref27_Check.f k m l g = some (i, f)) ∧ (∃ k, antiquaryref27_SameGraph.f k gs gs = some true) ∧ (∃ k, graph_Valid.f k n g = some b) ∧ (∃ k, antiquaryref27_Valid.f k n g = some b)
set_option maxHeartbeats 4000000 in
set_option maxRecDepth 100000 in
theorem lawNo1 (m : Int) (A1 : Option Addr) (c1 : Nat) (l : List (List Int)) (want n : Int) (A2 : Option Addr) (c2 : Nat) (g : List Hd) (w : World) (hr1 : Kd.C (Kd.slice 3 (Kd.int .i64)) w A1 l.length l) (hc1 : l.length ≤ c1) (k : Nat) (h : antiquaryref09_Few.f k l 25 = some false) :
    Calls Tryz.prog 4 #[.int .i64 m, .slice A1 l.length c1, .int .i64 want, .int .i64 n, .agg #[.slice A2 g.length c2]] w fun e w' => e = .returned (.bool true) ∧ Below w.heap.size w w' := by
  have hu := Tryz.underlying25
  have HF := Aside0.mk (antiquaryref09_Few.calls k A1 c1 l 25 false _ (Kd.C_alloc hr1 (.cells #[.slice A2 g.length c2] 25)) hc1 h)
  clear hr1 h
  go_enter Tryz.func4, Tryz.ntmps4
  go_wp2_with fail
  refine HF.out.mono ?_
  rintro e w1 ⟨rfl, hd⟩
  have HB := Aside0.mk (below_step (below_alloc (Below.refl _ w) _) hd.below)
  clear hd HF
  go_wp2_with fail
  refine (sanityC w1).mono ?_
  rintro e w2 ⟨rfl, hb⟩
  have HB2 := Aside0.mk (below_step HB.out hb)
  clear hb
  go_wp2
  go_ret
  exact ⟨rfl, HB2.out⟩
set_option maxHeartbeats 4000000 in
set_option maxRecDepth 100000 in
theorem lawNo2 (m : Int) (A1 : Option Addr) (c1 : Nat) (l : List (List Int)) (want n : Int) (A2 : Option Addr) (c2 : Nat) (g : List Hd) (w : World) (hr1 : Kd.C (Kd.slice 3 (Kd.int .i64)) w A1 l.length l) (hc1 : l.length ≤ c1) (hr2 : Kd.C k61 w A2 g.length g) (hc2 : g.length ≤ c2) (k : Nat) (h : antiquaryref09_Few.f k l 25 = some true) (k2 : Nat) (h2 : antiquaryref27_Few.f k2 g = some false) :
    Calls Tryz.prog 4 #[.int .i64 m, .slice A1 l.length c1, .int .i64 want, .int .i64 n, .agg #[.slice A2 g.length c2]] w fun e w' => e = .returned (.bool true) ∧ Below w.heap.size w w' := by
  have hu := Tryz.underlying25
  have HF := Aside0.mk (antiquaryref09_Few.calls k A1 c1 l 25 true _ (Kd.C_alloc hr1 (.cells #[.slice A2 g.length c2] 25)) hc1 h)
  have HF2 := Aside0.mk (fun W (hW : Below w.heap.size w W) => antiquaryref27_Few.calls k2 A2 c2 g false W (Kd.C_below hr2 hW) hc2 h2)
  clear hr1 hr2 h h2
  go_enter Tryz.func4, Tryz.ntmps4
  go_wp2_with fail
  refine HF.out.mono ?_
  rintro e w1 ⟨rfl, hd⟩
  have c0 := cell_of_blk (blk_below (blk_new w (.cells #[.slice A2 g.length c2] 25)) hd.below)
  have HB := Aside0.mk (below_step (below_alloc (Below.refl _ w) _) hd.below)
  clear hd HF
  go_wp2_with fail
  refine (HF2.out _ HB.out).mono ?_
  rintro e w2 ⟨rfl, hb⟩
  have HB2 := Aside0.mk (below_step HB.out hb)
  clear hb HF2 c0
  go_wp2_with fail
  refine (sanityC w2).mono ?_
  rintro e w3 ⟨rfl, hb⟩
  have HB3 := Aside0.mk (below_step HB2.out hb)
  clear hb
  go_wp2
  go_ret
  exact ⟨rfl, HB3.out⟩
set_option maxHeartbeats 8000000 in
set_option maxRecDepth 100000 in
theorem lawYes (m : Int) (A1 : Option Addr) (c1 : Nat) (l : List (List Int)) (want n : Int) (A2 : Option Addr) (c2 : Nat) (g : List Hd) (w : World) (hr1 : Kd.C (Kd.slice 3 (Kd.int .i64)) w A1 l.length l) (hc1 : l.length ≤ c1) (hr2 : Kd.C k61 w A2 g.length g) (hc2 : g.length ≤ c2) (k : Nat) (h : antiquaryref09_Few.f k l 25 = some true) (k2 : Nat) (h2 : antiquaryref27_Few.f k2 g = some true) (ha : Agree m l want n g) :
    Calls Tryz.prog 4 #[.int .i64 m, .slice A1 l.length c1, .int .i64 want, .int .i64 n, .agg #[.slice A2 g.length c2]] w fun e w' => e = .returned (.bool true) ∧ Below w.heap.size w w' := by
  have hu := Tryz.underlying25
  have hu2 := Tryz.underlying48
  have hu3 := Tryz.underlying51
  obtain ⟨gs, er, ci, cf, vb, b1, ⟨kb, b2⟩, ⟨kc, b3⟩, ⟨kd, b4⟩, ⟨ke, b5⟩, ⟨kf, b6⟩, ⟨kg, b7⟩⟩ := ha.all
  have HF := Aside0.mk ((callsIn_wide (n := 0)).2 (antiquaryref09_Few.calls k A1 c1 l 25 true _ (Kd.C_alloc hr1 (.cells #[.slice A2 g.length c2] 25)) hc1 h))
  have HF2 := Aside0.mk (fun W (hW : Below w.heap.size w W) => (callsIn_wide (n := 0)).2 (antiquaryref27_Few.calls k2 A2 c2 g true W (Kd.C_below hr2 hW) hc2 h2))
  have H3 := Aside0.mk (fun W (hW : Below w.heap.size w W) => (callsIn_wide (n := 0)).2 (graph_Build.calls m A1 c1 l want gs er W (Kd.C_below hr1 hW) hc1 b1))
  have H4 := Aside0.mk (fun W (hW : Below w.heap.size w W) => (callsIn_wide (n := 0)).2 (graph_Check.calls kc m A1 c1 l A2 c2 g ci cf W (Kd.C_below hr1 hW) hc1 (Kd.C_below hr2 hW) hc2 b3))
  have H5 := Aside0.mk (fun W (hW : Below w.heap.size w W) => (callsIn_wide (n := 0)).2 (antiquaryref27_Build.calls kb m A1 c1 l want gs er W (Kd.C_below hr1 hW) hc1 b2))
  have H6 := Aside0.mk (fun W (hW : Below w.heap.size w W) => (callsIn_wide (n := 0)).2 (antiquaryref27_Check.calls kd m A1 c1 l A2 c2 g ci cf W (Kd.C_below hr1 hW) hc1 (Kd.C_below hr2 hW) hc2 b4))
  have H7 := Aside0.mk (fun W (hW : Below w.heap.size w W) => (callsIn_wide (n := 0)).2 (graph_Valid.calls kf n A2 c2 g vb W (Kd.C_below hr2 hW) hc2 b6))
  have H8 := Aside0.mk (fun W (hW : Below w.heap.size w W) => (callsIn_wide (n := 0)).2 (antiquaryref27_Valid.calls kg n A2 c2 g vb W (Kd.C_below hr2 hW) hc2 b7))
  have HE := Aside0.mk b5
  clear hr1 hr2 h h2 ha b1 b2 b3 b4 b5 b6 b7
  refine callsIn_wide (n := 0).1 ?_
  refine callsIn_of_wp Tryz.func4 rfl trivial ?_ rfl
  simp only [Tryz.ntmps4, List.size_toArray, List.length_cons, List.length_nil, Nat.reduceAdd, Nat.reduceSub, Array.replicate_succ, Array.replicate_zero, List.push_toArray, List.append_toArray, List.nil_append, List.cons_append]
  gi_wp2
  refine ⟨trivial, rfl, HF.out.mono ?_⟩
  rintro e w1 ⟨rfl, hd⟩
  have HX1 := Aside0.mk (blk_below (blk_new w (.cells #[.slice A2 g.length c2] 25)) hd.below)
  have c0 := cell_of_blk HX1.out
  have HB1 := Aside0.mk (below_step (below_alloc (Below.refl _ w) _) hd.below)
  clear hd HF
  gi_wp2
  refine ⟨trivial, rfl, (HF2.out _ HB1.out).mono ?_⟩
  rintro e w2 ⟨rfl, hb⟩
  have HB2 := Aside0.mk (below_step HB1.out hb)
  have HX2 := Aside0.mk (blk_below HX1.out hb)
  clear hb HF2 c0 HX1 HB1
  gi_wp2
  refine ⟨trivial, rfl, (H3.out _ HB2.out).mono ?_⟩
  rintro e w3 ⟨v3, rfl, hR, hb⟩
  obtain ⟨A3, c3, rfl⟩ := Kd.R_slice hR
  have HG3 := Aside0.mk (Kd.R_reads' hR).2.2
  have hc3 := (Kd.R_reads' hR).2.1
  have HB3 := Aside0.mk (below_alloc (below_step HB2.out hb) (.cells #[.slice A3 gs.length c3] 25))
  have HX3 := Aside0.mk (blk_alloc (blk_below HX2.out hb) (.cells #[.slice A3 gs.length c3] 25))
  have c0 := cell_of_blk HX3.out
  clear hb hR H3 HB2 HX2
  gi_wp2
  refine ⟨trivial, rfl, (H4.out _ HB3.out).mono ?_⟩
  rintro e w4 ⟨rfl, hb⟩
  have HY4 := Aside0.mk (blk_below (blk_new w3 (.cells #[.slice A3 gs.length c3] 25)) hb)
  have HG4 := Aside0.mk (Kd.C_below (Kd.C_alloc HG3.out (.cells #[.slice A3 gs.length c3] 25)) hb)
  have HX4 := Aside0.mk (blk_below HX3.out hb)
  have HB4 := Aside0.mk (below_step HB3.out hb)
  clear hb c0 HG3 HX3 HB3 H4
  gi_wp2
  refine ⟨trivial, rfl, (H5.out _ HB4.out).mono ?_⟩
  rintro e w5 ⟨v5, rfl, hS, hb⟩
  have hR := Kd.S_R hS
  obtain ⟨A5, c5, rfl⟩ := Kd.R_slice hR
  have hc5 := (Kd.R_reads' hR).2.1
  have HG5 := Aside0.mk (Kd.C_alloc (Kd.R_reads' hR).2.2 (.cells #[.slice A5 gs.length c5, .int .i64 er] 48))
  have hbk := below_alloc (below_step (Below.refl w4.heap.size w4) hb) (.cells #[.slice A5 gs.length c5, .int .i64 er] 48)
  have HZ5 := Aside0.mk (blk_new w5 (.cells #[.slice A5 gs.length c5, .int .i64 er] 48))
  have HY5 := Aside0.mk (blk_below HY4.out hbk)
  have HG45 := Aside0.mk (Kd.C_below HG4.out hbk)
  have HX5 := Aside0.mk (blk_below HX4.out hbk)
  have HB5 := Aside0.mk (below_step HB4.out hbk)
  have c0 := cell_of_blk HX5.out
  clear hb hbk hS hR H5 HY4 HG4 HX4 HB4
  gi_wp2
  refine ⟨trivial, rfl, (H6.out _ HB5.out).mono ?_⟩
  rintro e w6 ⟨rfl, hb⟩
  have HZ6 := Aside0.mk (blk_alloc (blk_below HZ5.out hb) (.cells #[.int .i64 ci, .int .i64 cf] 51))
  have HY6 := Aside0.mk (blk_alloc (blk_below HY5.out hb) (.cells #[.int .i64 ci, .int .i64 cf] 51))
  have HX6 := Aside0.mk (blk_alloc (blk_below HX5.out hb) (.cells #[.int .i64 ci, .int .i64 cf] 51))
  have HG46 := Aside0.mk (Kd.C_alloc (Kd.C_below HG45.out hb) (.cells #[.int .i64 ci, .int .i64 cf] 51))
  have HG56 := Aside0.mk (Kd.C_alloc (Kd.C_below HG5.out hb) (.cells #[.int .i64 ci, .int .i64 cf] 51))
  have HB6 := Aside0.mk (below_alloc (below_step HB5.out hb) (.cells #[.int .i64 ci, .int .i64 cf] 51))
  have HW6 := Aside0.mk (blk_new w6 (.cells #[.int .i64 ci, .int .i64 cf] 51))
  clear hb c0 H6 HZ5 HY5 HX5 HG45 HG5 HB5
  gi_upto_region 7 with (fail)
  have x0 := HX6.out
  have x1 := HY6.out
  have x2 := HZ6.out
  have x3 := HW6.out
  have x4 := HG46.out
  have x5 := HG56.out
  have x6 := HB6.out
  clear HX6 HY6 HZ6 HW6 HG46 HG56 HB6
  generalize w6.alloc (.cells #[.int .i64 ci, .int .i64 cf] 51) = w7 at x0 x1 x2 x3 x4 x5 x6 ⊢
  have e0 := cell_regrown (cell_of_blk x0)
  have e1 := cell_regrown (cell_of_blk x1)
  have e2 : ∀ d os, (grow (redrawn w7 d) os).cell? ⟨w5.heap.size, 0, none⟩ = some (.slice A5 gs.length c5) := cell_regrown (by simp [World.cell?, x2])
  have e3 : ∀ d os, (grow (redrawn w7 d) os).cell? ⟨w5.heap.size, 1, none⟩ = some (.int .i64 er) := cell_regrown (by simp [World.cell?, x2])
  have e4 : ∀ d os, (grow (redrawn w7 d) os).cell? ⟨w6.heap.size, 0, none⟩ = some (.int .i64 ci) := cell_regrown (by simp [World.cell?, x3])
  have e5 : ∀ d os, (grow (redrawn w7 d) os).cell? ⟨w6.heap.size, 1, none⟩ = some (.int .i64 cf) := cell_regrown (by simp [World.cell?, x3])
  have q1 := fun d os => CallsIn.regrown_of (d := d) (os := os) (w := w7) ((callsIn_wide (n := 0)).2 (sanityC (grow (redrawn w7 d) os)))
  have q2 := fun d os => CallsIn.regrown_of (d := d) (os := os) (w := w7) ((callsIn_wide (n := 0)).2 (antiquaryref27_SameGraph.calls ke A3 c3 gs A5 c5 gs true (grow (redrawn w7 d) os) (Kd.C_below x4 (below_regrown w7 d os)) hc3 (Kd.C_below x5 (below_regrown w7 d os)) hc5 HE.out))
  have q3 := fun d os => CallsIn.regrown_of (d := d) (os := os) (w := w7) (H7.out (grow (redrawn w7 d) os) (below_step x6 (below_regrown w7 d os)))
  have q4 := fun d os => CallsIn.regrown_of (d := d) (os := os) (w := w7) (H8.out (grow (redrawn w7 d) os) (below_step x6 (below_regrown w7 d os)))
  have HX := Aside0.mk x6
  clear x0 x1 x2 x3 x4 x5 x6
  refine region_quiet_below (by kernel_rfl) (by kernel_rfl) (by kernel_rfl) ?_
  repeat (refine wpQuietIn_step (fun _ _ _ _ => trivial) (fun K hK => ?_); go_simp; first | (refine hK _ ?_; clear hK K) | (apply Exists.intro; refine ⟨fun _ => ?_, hK _ ?_⟩; (first | exact ⟨rfl, q1 _ _⟩ | exact ⟨rfl, q2 _ _⟩ | exact ⟨rfl, q3 _ _⟩ | exact ⟨rfl, q4 _ _⟩); clear hK K))
  refine wpQuietIn_nil ?_
  intro _ hw'
  obtain ⟨⟨dq, osq⟩, hw''⟩ := hw'
  subst hw''
  have HXB := Aside0.mk (below_step HX.out (below_regrown w7 dq osq))
  clear e0 e1 e2 e3 e4 e5 q1 q2 q3 q4
  gi_wp2
  go_ret
  exact ⟨ret_bool (by simp), HXB.out⟩
/-- The law's code returns true, for whatever it is given. -/
theorem lawC (m : Int) (A1 : Option Addr) (c1 : Nat) (l : List (List Int)) (want n : Int) (A2 : Option Addr) (c2 : Nat) (g : List Hd) (w : World) (hr1 : Kd.C (Kd.slice 3 (Kd.int .i64)) w A1 l.length l) (hc1 : l.length ≤ c1) (hr2 : Kd.C k61 w A2 g.length g) (hc2 : g.length ≤ c2)
    (h1 : ∃ k b, antiquaryref09_Few.f k l 25 = some b) (h2 : ∃ k b, antiquaryref27_Few.f k g = some b) (ha : ∀ k k2, antiquaryref09_Few.f k l 25 = some true → antiquaryref27_Few.f k2 g = some true → Agree m l want n g) :
    Calls Tryz.prog 4 #[.int .i64 m, .slice A1 l.length c1, .int .i64 want, .int .i64 n, .agg #[.slice A2 g.length c2]] w fun e w' => e = .returned (.bool true) ∧ Below w.heap.size w w' := by
  obtain ⟨k, b, h1⟩ := h1
  obtain ⟨k2, b2, h2⟩ := h2
  cases b with
  | false => exact lawNo1 m A1 c1 l want n A2 c2 g w hr1 hc1 k h1
  | true =>
    cases b2 with
    | false => exact lawNo2 m A1 c1 l want n A2 c2 g w hr1 hc1 hr2 hc2 k h1 k2 h2
    | true => exact lawYes m A1 c1 l want n A2 c2 g w hr1 hc1 hr2 hc2 k h1 k2 h2 (ha k k2 h1 h2)
end Go.Proofs.YthbkomkgciemiaaGreat.PKB
