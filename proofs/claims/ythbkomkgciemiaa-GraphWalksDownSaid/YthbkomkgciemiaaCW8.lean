/- Texts of this claim, merged: part 8. -/
import Derived.Test.YthbkomkgciemiaaCW3
import Derived.Test.YthbkomkgciemiaaCW4
import Derived.Test.YthbkomkgciemiaaCW7
import Derived.Lib.QuietBelowIn
import Derived.OwnWalkIn
import Derived.Lib.SliceRun
import Derived.Test.YthbkomkgciemiaaCW6
import Derived.Sort.CutIn
-- by hp.py over the kit's print (stubs proved by hand)
namespace Go.Proofs.Ythbkomkgciemiaa.PKM
open Go.RowKit Go.Proofs.YthbkomkgciemiaaW.PrintWords Go.Proofs.YthbkomkgciemiaaW.PrintLast Go.Proofs.YthbkomkgciemiaaW.PrintMore
attribute [local go_sem] max2_int min2_int max_two min_two max_three min_three max_four min_four   -- for this text's walks alone
set_option linter.unusedVariables false
set_option linter.unusedSimpArgs false

-- STAGE 2 graph_space_isRight
-- proved by hand: graph_space_isRight
-- STAGE 2 graph_Check
/-! ### graph_Check: function 18 -/
mutual
def graph_Check.j0 : Nat → List (List Int) → Bool → List (S39) → Int → List (List Int) → Option (Int × Int)
  | 0, _, _, _, _, _ => none
  | k + 1, x1, x23, x173000, x174000, x174001 => if x23 = true then (some (0, 1)) else (graph_Check.l0 k x1 x173000 (x173000.length : Int) 0 x174000 x174001)
def graph_Check.l0 : Nat → List (List Int) → List (S39) → Int → Int → Int → List (List Int) → Option (Int × Int)
  | 0, _, _, _, _, _, _ => none
  | k + 1, x1, x25, x26, x27, x174000, x174001 => if x27 < x26 then (if 0 ≤ x27 then (if x27 < (x25.length : Int) then (if x27 < (x1.length : Int) then ((graph_space_keys.f k x174000 x174001 (rd_L1 x1 x27)).bind fun t179 => ((graph_around.f k t179 ((rd_T39 x25 x27).f0)).bind fun t182 => ((slices_Equal_int_int.f k ((rd_T39 x25 x27).f1) t182).bind fun t185 => (if t185 = true then (graph_Check.l0 k x1 x25 x26 (wrap64 (x27 + 1)) x174000 x174001) else (some (x27, 0)))))) else (none)) else (none)) else (none)) else (some ((-1), 0))
end
def graph_Check.f (k : Nat) (a0 : Int) (l1 : List (List Int)) (l2_0 : List (S39)) : Option (Int × Int) := (graph_space_isRight.f a0 l1).bind fun t174 => (if t174 = true then ((graph_Valid.f k (l1.length : Int) l2_0).bind fun t175 => (graph_Check.j0 k l1 (!t175) l2_0 a0 l1)) else (graph_Check.j0 k l1 true l2_0 a0 l1))
theorem graph_Check.mono_l : ∀ k, (∀ y0 y1 y2 y3 y4, LeO (graph_Check.j0 k y0 y1 y2 y3 y4) (graph_Check.j0 (k + 1) y0 y1 y2 y3 y4)) ∧ (∀ y0 y1 y2 y3 y4 y5, LeO (graph_Check.l0 k y0 y1 y2 y3 y4 y5) (graph_Check.l0 (k + 1) y0 y1 y2 y3 y4 y5))
  | 0 => ⟨fun _ _ _ _ _ r h => by simp [graph_Check.j0] at h, fun _ _ _ _ _ _ r h => by simp [graph_Check.l0] at h⟩
  | k + 1 => by
    obtain ⟨ih0, ih1⟩ := graph_Check.mono_l k
    refine ⟨?_, ?_⟩
    · intro y0 y1 y2 y3 y4
      unfold graph_Check.j0
      repeat' first
      | (with_reducible exact ih0 _ _ _ _ _)
      | (with_reducible exact ih1 _ _ _ _ _ _)
      | (with_reducible exact graph_Valid.mono _ _ _)
      | (with_reducible exact graph_around.mono _ _ _)
      | (with_reducible exact graph_space_keys.mono _ _ _ _)
      | (with_reducible exact slices_Equal_int_int.mono _ _ _)
      | (with_reducible exact LeO.refl _)
      | (with_reducible exact LeO.none _)
      | (with_reducible refine LeO.ite ?_ ?_)
      | (with_reducible refine LeO.bind ?_ (fun _ => ?_))
      | exact ih0 _ _ _ _ _
      | exact ih1 _ _ _ _ _ _
      | exact graph_Valid.mono _ _ _
      | exact graph_around.mono _ _ _
      | exact graph_space_keys.mono _ _ _ _
      | exact slices_Equal_int_int.mono _ _ _
      | exact LeO.none _
      | refine LeO.ite ?_ ?_
      | refine LeO.bind ?_ (fun _ => ?_)
    · intro y0 y1 y2 y3 y4 y5
      unfold graph_Check.l0
      repeat' first
      | (with_reducible exact ih0 _ _ _ _ _)
      | (with_reducible exact ih1 _ _ _ _ _ _)
      | (with_reducible exact graph_Valid.mono _ _ _)
      | (with_reducible exact graph_around.mono _ _ _)
      | (with_reducible exact graph_space_keys.mono _ _ _ _)
      | (with_reducible exact slices_Equal_int_int.mono _ _ _)
      | (with_reducible exact LeO.refl _)
      | (with_reducible exact LeO.none _)
      | (with_reducible refine LeO.ite ?_ ?_)
      | (with_reducible refine LeO.bind ?_ (fun _ => ?_))
      | exact ih0 _ _ _ _ _
      | exact ih1 _ _ _ _ _ _
      | exact graph_Valid.mono _ _ _
      | exact graph_around.mono _ _ _
      | exact graph_space_keys.mono _ _ _ _
      | exact slices_Equal_int_int.mono _ _ _
      | exact LeO.none _
      | refine LeO.ite ?_ ?_
      | refine LeO.bind ?_ (fun _ => ?_)
theorem graph_Check.mono : ∀ a0 a1 a2 k, LeO (graph_Check.f k a0 a1 a2) (graph_Check.f (k + 1) a0 a1 a2) := by
  intro a0 a1 a2 k
  obtain ⟨ih0, ih1⟩ := graph_Check.mono_l k
  unfold graph_Check.f
  repeat' first
      | (with_reducible exact ih0 _ _ _ _ _)
      | (with_reducible exact ih1 _ _ _ _ _ _)
      | (with_reducible exact graph_Valid.mono _ _ _)
      | (with_reducible exact graph_around.mono _ _ _)
      | (with_reducible exact graph_space_keys.mono _ _ _ _)
      | (with_reducible exact slices_Equal_int_int.mono _ _ _)
      | (with_reducible exact LeO.refl _)
      | (with_reducible exact LeO.none _)
      | (with_reducible refine LeO.ite ?_ ?_)
      | (with_reducible refine LeO.bind ?_ (fun _ => ?_))
      | exact ih0 _ _ _ _ _
      | exact ih1 _ _ _ _ _ _
      | exact graph_Valid.mono _ _ _
      | exact graph_around.mono _ _ _
      | exact graph_space_keys.mono _ _ _ _
      | exact slices_Equal_int_int.mono _ _ _
      | exact LeO.none _
      | refine LeO.ite ?_ ?_
      | refine LeO.bind ?_ (fun _ => ?_)
def graph_Check.T7 : Bool × List (List Nat × List Nat) := (true, [([], []), ([0], [0]), ([], []), ([], []), ([], []), ([3, 4], [3, 4]), ([5], [5]), ([2, 6], [2, 6]), ([], []), ([8], [8]), ([7, 9, 7], [7, 9]), ([1, 10, 10], [1, 10]), ([11], [11])])
def graph_Check.B7 : List Nat := [0, 1, 0, 0, 0, 24, 56, 124, 0, 256, 1020, 2047, 4095]
theorem graph_Check.tab7 : rtab .any (opsOf Try.f18 7) = graph_Check.T7 := by kernel_rfl
theorem graph_Check.bits7 : waitsOk graph_Check.T7.2 graph_Check.B7 = true := by kernel_rfl
set_option maxHeartbeats 8000000 in
set_option maxRecDepth 100000 in
theorem graph_Check.calls (k : Nat) (a0 : Int) (A1 : Option Addr) (c1 : Nat) (l1 : List (List Int)) (A2_0 : Option Addr) (c2_0 : Nat) (l2_0 : List (S39)) (r1 : Int) (r2 : Int) (w : World) (hr1 : Kd.C (Kd.slice 3 (Kd.int .i64)) w A1 l1.length l1) (hc1 : l1.length ≤ c1) (hr2_0 : Kd.C k39 w A2_0 l2_0.length l2_0) (hc2_0 : l2_0.length ≤ c2_0) (h : graph_Check.f k a0 l1 l2_0 = some (r1, r2)) :
    Calls Try.prog 18 #[.int .i64 a0, .slice A1 l1.length c1, .agg #[.slice A2_0 l2_0.length c2_0]] w fun e w' => e = .returned (.tuple #[.int .i64 r1, .int .i64 r2]) ∧ Below w.heap.size w w' := by
  have hu25 := Try.underlying25
  have hu54 := Try.underlying54
  have hu39 := Try.underlying39
  have HR1 := Aside0.mk hr1
  have HC1 := Aside0.mk hc1
  clear hr1 hc1
  have HR2_0 := Aside0.mk hr2_0
  have HC2_0 := Aside0.mk hc2_0
  clear hr2_0 hc2_0
  have HB := Aside0.mk (Below.refl w.heap.size w)
  have H : ((graph_space_isRight.f a0 l1).bind fun t174 => (if t174 = true then ((graph_Valid.f k (l1.length : Int) l2_0).bind fun t175 => (graph_Check.j0 k l1 (!t175) l2_0 a0 l1)) else (graph_Check.j0 k l1 true l2_0 a0 l1))) = some (r1, r2) := h
  clear h
  have HC4 := Aside0.mk H
  clear H
  go_enter Try.func18, Try.ntmps18
  go_upto_region 2 with (first | ((with_reducible refine gate_dst (N := 5) rfl ?_); (try (refine gate_guard (by rfl) ?_; dsimp only)); refine box_event ?hg (N := 5) ?hd (cs := #[.slice A2_0 l2_0.length c2_0]) (t := 25) ?hr ?_; (case hd => rfl); (case hg => rfl); (case hr => first | (go_simp; done) | (go_simp; rfl)); intro gb172 hg w5 hbox hb; have n0_ := Aside0.mk (below_step (by repeat (first | (with_reducible first | exact HB.out | apply below_alloc | apply pw_below_drewN | apply below_drew1) | exact HB.out)) hb); have n1_ := Aside0.mk (hbox); have n2_ := Aside0.mk ((by rw [hg]; exact (below_size (by repeat (first | (with_reducible first | exact HB.out | apply below_alloc | apply pw_below_drewN | apply below_drew1) | exact HB.out))) : w.heap.size ≤ gb172)); have n3_ := Aside0.mk ((by rw [hg]; exact (below_size (by repeat (first | (with_reducible first | exact HB.out | apply below_alloc | apply pw_below_drewN | apply below_drew1) | exact HB.out))) : w.heap.size ≤ gb172)); clear HB; have HB := n0_; have BK172 := n1_; have GW172 := n2_; have GE172 := n3_; clear n0_ n1_ n2_ n3_; clear hb hbox hg) | ((with_reducible refine gate_dst (N := 8) rfl ?_); (try (refine gate_guard (by rfl) ?_; dsimp only)); refine box_event ?hg (N := 8) ?hd (cs := #[.int .i64 0, .slice none 0 0]) (t := 54) ?hr ?_; (case hd => rfl); (case hg => rfl); (case hr => first | (go_simp; done) | (go_simp; rfl)); intro gb173 hg w6 hbox hb; have n0_ := Aside0.mk (blk_below (g := gb172) (o := .cells #[.slice A2_0 l2_0.length c2_0] 25 (0, 0)) (by (with_reducible repeat (first | refine blk_drewN ?_ _ | refine blk_drew ?_ | refine blk_alloc ?_ _)); exact BK172.out) hb); have n1_ := Aside0.mk (below_step (by repeat (first | (with_reducible first | exact HB.out | apply below_alloc | apply pw_below_drewN | apply below_drew1 | refine below_set ?_ GE172.out) | exact HB.out)) hb); have n2_ := Aside0.mk (hbox); have n3_ := Aside0.mk ((by rw [hg]; exact (below_size (by repeat (first | (with_reducible first | exact HB.out | apply below_alloc | apply pw_below_drewN | apply below_drew1 | refine below_set ?_ GE172.out) | exact HB.out))) : w.heap.size ≤ gb173)); have n4_ := Aside0.mk ((by rw [hg]; exact (below_size (by repeat (first | (with_reducible first | exact HB.out | apply below_alloc | apply pw_below_drewN | apply below_drew1 | refine below_set ?_ GE172.out) | exact HB.out))) : w.heap.size ≤ gb173)); have n5_ := Aside0.mk ((by rw [hg]; exact Nat.ne_of_lt (blk_lt (g := gb172) (o := .cells #[.slice A2_0 l2_0.length c2_0] 25 (0, 0)) (by (with_reducible repeat (first | refine blk_drewN ?_ _ | refine blk_drew ?_ | refine blk_alloc ?_ _)); exact BK172.out)) : gb172 ≠ gb173)); have n6_ := Aside0.mk ((by rw [hg]; exact Nat.ne_of_gt (blk_lt (g := gb172) (o := .cells #[.slice A2_0 l2_0.length c2_0] 25 (0, 0)) (by (with_reducible repeat (first | refine blk_drewN ?_ _ | refine blk_drew ?_ | refine blk_alloc ?_ _)); exact BK172.out)) : gb173 ≠ gb172)); clear BK172; clear HB; have BK172 := n0_; have HB := n1_; have BK173 := n2_; have GW173 := n3_; have GE173 := n4_; have NB172_173 := n5_; have NB173_172 := n6_; clear n0_ n1_ n2_ n3_ n4_ n5_ n6_; clear hb hbox hg; have hnb7 := NB173_172.out; have hnc7 := NB172_173.out; have hcz8_0 : w6.cell? ⟨gb173, 0, none⟩ = some (.int .i64 0) := (blk_cell BK173.out 0).trans rfl; have hcz8_1 : w6.cell? ⟨gb173, 1, none⟩ = some (.slice none 0 0) := (blk_cell BK173.out 1).trans rfl; have hfz8_0 := blk_frozen BK173.out 0; have hfz8_1 := blk_frozen BK173.out 1))
  (try simp only [Act.put, List.setIfInBounds_toArray, List.set_cons_zero, List.set_cons_succ])
  go_cut [23] (fun v23 wc => ∃ (kq : Nat) (x23_3 : Bool), v23 = .bool x23_3 ∧ Aside0 (graph_Check.j0 kq l1 x23_3 l2_0 a0 l1 = some (r1, r2)) ∧ Aside0 (kq ≤ k) ∧ Aside0 (wc.heap[gb172]? = some (.cells #[(.slice A2_0 l2_0.length c2_0)] 25 (0, 0))) ∧ Aside0 (wc.heap[gb173]? = some (.cells #[.int .i64 a0, (.slice A1 l1.length c1)] 54 (0, 0))) ∧ Aside0 (Below w.heap.size w wc))
  case first =>
    have H := HC4.out
    clear HC4
    replace H := Option.bind_eq_some_iff.mp H
    obtain ⟨t174, A90, H⟩ := H
    replace H : (if t174 = true then ((graph_Valid.f k (l1.length : Int) l2_0).bind fun t175 => (graph_Check.j0 k l1 (!t175) l2_0 a0 l1)) else (graph_Check.j0 k l1 true l2_0 a0 l1)) = some (r1, r2) := H
    have A9 := Aside0.mk A90
    clear A90
    by_cases c10 : t174 = true
    · subst c10
      have H1 : ((graph_Valid.f k (l1.length : Int) l2_0).bind fun t175 => (graph_Check.j0 k l1 (!t175) l2_0 a0 l1)) = some (r1, r2) := by rw [if_pos rfl] at H; exact H
      clear H
      have H := H1
      clear H1
      replace H := Option.bind_eq_some_iff.mp H
      obtain ⟨t175, A110, H⟩ := H
      replace H : (graph_Check.j0 k l1 (!t175) l2_0 a0 l1) = some (r1, r2) := H
      have A11 := Aside0.mk A110
      clear A110
      have H' := Aside0.mk H
      clear H
      have hnb12 := NB173_172.out
      have hnc12 := NB172_173.out
      have hcz13_0 : w6.cell? ⟨gb173, 0, none⟩ = some (.int .i64 0) := (blk_cell BK173.out 0).trans rfl
      have hcz13_1 : w6.cell? ⟨gb173, 1, none⟩ = some (.slice none 0 0) := (blk_cell BK173.out 1).trans rfl
      have hfz13_0 := blk_frozen BK173.out 0
      have hfz13_1 := blk_frozen BK173.out 1
      go_wp2_with (first | ((with_reducible refine gate_callee (f := 35) rfl ?_); refine goesL_ (some 15) rfl rfl Try.func35 (by kernel_rfl) rfl #[.agg #[.int .i64 a0, .slice A1 l1.length c1]] rfl (by (try simp only [List.map_toArray, List.map_cons, List.map_nil]); first | done | rfl | (simp only [List.length_drop, List.length_take]; rfl)) ?_; (with_reducible refine (graph_space_isRight.calls a0 _ _ l1 true _ ?side1 ?side2 A9.out).mono ?_); (case side1 => exact Kd.C_below HR1.out (by repeat (first | (with_reducible first | exact HB.out | apply below_alloc | apply pw_below_drewN | apply below_drew1 | refine below_set ?_ GE172.out | refine below_set ?_ GE173.out) | exact HB.out))); (case side2 => exact HC1.out); rintro e w14 ⟨rfl, hb⟩; refine ⟨_, rfl, ?_⟩; have n0_ := Aside0.mk (blk_below (g := gb172) (o := .cells #[.slice A2_0 l2_0.length c2_0] 25 (0, 0)) (by (with_reducible repeat (first | refine blk_drewN ?_ _ | refine blk_drew ?_ | refine blk_alloc ?_ _)); refine blk_far ?_ NB172_173.out _; (with_reducible repeat (first | refine blk_drewN ?_ _ | refine blk_drew ?_ | refine blk_alloc ?_ _)); refine blk_far ?_ NB172_173.out _; (with_reducible repeat (first | refine blk_drewN ?_ _ | refine blk_drew ?_ | refine blk_alloc ?_ _)); exact BK172.out) hb); have n1_ := Aside0.mk (blk_below (g := gb173) (o := .cells #[.int .i64 a0, .slice A1 l1.length c1] 54 (0, 0)) (by (with_reducible repeat (first | refine blk_drewN ?_ _ | refine blk_drew ?_ | refine blk_alloc ?_ _)); refine blk_put (cs := #[.int .i64 a0, .slice none 0 0]) ?_ 1 _ rfl; (with_reducible repeat (first | refine blk_drewN ?_ _ | refine blk_drew ?_ | refine blk_alloc ?_ _)); refine blk_put (cs := #[.int .i64 0, .slice none 0 0]) ?_ 0 _ rfl; (with_reducible repeat (first | refine blk_drewN ?_ _ | refine blk_drew ?_ | refine blk_alloc ?_ _)); exact BK173.out) hb); have n2_ := Aside0.mk (below_step (by repeat (first | (with_reducible first | exact HB.out | apply below_alloc | apply pw_below_drewN | apply below_drew1 | refine below_set ?_ GE172.out | refine below_set ?_ GE173.out) | exact HB.out)) hb); clear BK172; clear BK173; clear HB; have BK172 := n0_; have BK173 := n1_; have HB := n2_; clear n0_ n1_ n2_; (try clear hb); (try clear hb2); (try clear hk); (try clear hi); have hcz15_0 : w14.cell? ⟨gb172, 0, none⟩ = some (.slice A2_0 l2_0.length c2_0) := (blk_cell BK172.out 0).trans rfl; have hfz15_0 := blk_frozen BK172.out 0) | (go_at_call 19; (with_reducible refine (graph_Valid.calls k (l1.length : Int) _ _ l2_0 t175 _ ?side1 ?side2 A11.out).mono ?_); (case side1 => repeat (first | exact (Kd.C_below HR2_0.out HB.out) | (with_reducible refine Kd.C_alloc ?_ _) | (with_reducible refine Kd.C_drewN ?_ _) | (with_reducible refine Kd.C_drew ?_))); (case side2 => exact HC2_0.out); rintro e w16 ⟨rfl, hb⟩; have n0_ := Aside0.mk (blk_below (g := gb172) (o := .cells #[.slice A2_0 l2_0.length c2_0] 25 (0, 0)) (by (with_reducible repeat (first | refine blk_drewN ?_ _ | refine blk_drew ?_ | refine blk_alloc ?_ _)); exact BK172.out) hb); have n1_ := Aside0.mk (blk_below (g := gb173) (o := .cells #[.int .i64 a0, .slice A1 l1.length c1] 54 (0, 0)) (by (with_reducible repeat (first | refine blk_drewN ?_ _ | refine blk_drew ?_ | refine blk_alloc ?_ _)); exact BK173.out) hb); have n2_ := Aside0.mk (below_step (by repeat (first | (with_reducible first | exact HB.out | apply below_alloc | apply pw_below_drewN | apply below_drew1 | refine below_set ?_ GE172.out | refine below_set ?_ GE173.out) | exact HB.out)) hb); clear BK172; clear BK173; clear HB; have BK172 := n0_; have BK173 := n1_; have HB := n2_; clear n0_ n1_ n2_; (try clear hb); (try clear hb2); (try clear hk); (try clear hi)))
      go_meet
      case rel => exact ⟨_, (!t175), (by first | rfl | (simp; done) | (simp [*]; done)), H', ⟨by first | omega | exact Nat.le_refl _⟩, ⟨by (with_reducible repeat (first | refine blk_drewN ?_ _ | refine blk_drew ?_ | refine blk_alloc ?_ _)); exact BK172.out⟩, ⟨by (with_reducible repeat (first | refine blk_drewN ?_ _ | refine blk_drew ?_ | refine blk_alloc ?_ _)); exact BK173.out⟩, ⟨by repeat (first | (with_reducible first | exact HB.out | apply below_alloc | apply pw_below_drewN | apply below_drew1 | refine below_set ?_ GE172.out | refine below_set ?_ GE173.out) | exact HB.out)⟩⟩
    · replace c10 := Bool.eq_false_iff.mpr c10
      subst c10
      have H1 : (graph_Check.j0 k l1 true l2_0 a0 l1) = some (r1, r2) := by rw [if_neg (show ¬ (false = true) by decide)] at H; exact H
      clear H
      have H := H1
      clear H1
      have H' := Aside0.mk H
      clear H
      have hnb17 := NB173_172.out
      have hnc17 := NB172_173.out
      have hcz18_0 : w6.cell? ⟨gb173, 0, none⟩ = some (.int .i64 0) := (blk_cell BK173.out 0).trans rfl
      have hcz18_1 : w6.cell? ⟨gb173, 1, none⟩ = some (.slice none 0 0) := (blk_cell BK173.out 1).trans rfl
      have hfz18_0 := blk_frozen BK173.out 0
      have hfz18_1 := blk_frozen BK173.out 1
      go_wp2_with (first | ((with_reducible refine gate_callee (f := 35) rfl ?_); refine goesL_ (some 15) rfl rfl Try.func35 (by kernel_rfl) rfl #[.agg #[.int .i64 a0, .slice A1 l1.length c1]] rfl (by (try simp only [List.map_toArray, List.map_cons, List.map_nil]); first | done | rfl | (simp only [List.length_drop, List.length_take]; rfl)) ?_; (with_reducible refine (graph_space_isRight.calls a0 _ _ l1 false _ ?side1 ?side2 A9.out).mono ?_); (case side1 => exact Kd.C_below HR1.out (by repeat (first | (with_reducible first | exact HB.out | apply below_alloc | apply pw_below_drewN | apply below_drew1 | refine below_set ?_ GE172.out | refine below_set ?_ GE173.out) | exact HB.out))); (case side2 => exact HC1.out); rintro e w19 ⟨rfl, hb⟩; refine ⟨_, rfl, ?_⟩; have n0_ := Aside0.mk (blk_below (g := gb172) (o := .cells #[.slice A2_0 l2_0.length c2_0] 25 (0, 0)) (by (with_reducible repeat (first | refine blk_drewN ?_ _ | refine blk_drew ?_ | refine blk_alloc ?_ _)); refine blk_far ?_ NB172_173.out _; (with_reducible repeat (first | refine blk_drewN ?_ _ | refine blk_drew ?_ | refine blk_alloc ?_ _)); refine blk_far ?_ NB172_173.out _; (with_reducible repeat (first | refine blk_drewN ?_ _ | refine blk_drew ?_ | refine blk_alloc ?_ _)); exact BK172.out) hb); have n1_ := Aside0.mk (blk_below (g := gb173) (o := .cells #[.int .i64 a0, .slice A1 l1.length c1] 54 (0, 0)) (by (with_reducible repeat (first | refine blk_drewN ?_ _ | refine blk_drew ?_ | refine blk_alloc ?_ _)); refine blk_put (cs := #[.int .i64 a0, .slice none 0 0]) ?_ 1 _ rfl; (with_reducible repeat (first | refine blk_drewN ?_ _ | refine blk_drew ?_ | refine blk_alloc ?_ _)); refine blk_put (cs := #[.int .i64 0, .slice none 0 0]) ?_ 0 _ rfl; (with_reducible repeat (first | refine blk_drewN ?_ _ | refine blk_drew ?_ | refine blk_alloc ?_ _)); exact BK173.out) hb); have n2_ := Aside0.mk (below_step (by repeat (first | (with_reducible first | exact HB.out | apply below_alloc | apply pw_below_drewN | apply below_drew1 | refine below_set ?_ GE172.out | refine below_set ?_ GE173.out) | exact HB.out)) hb); clear BK172; clear BK173; clear HB; have BK172 := n0_; have BK173 := n1_; have HB := n2_; clear n0_ n1_ n2_; (try clear hb); (try clear hb2); (try clear hk); (try clear hi)))
      go_meet
      case rel => exact ⟨_, (true), (by first | rfl | (simp; done) | (simp [*]; done)), H', ⟨by first | omega | exact Nat.le_refl _⟩, ⟨by (with_reducible repeat (first | refine blk_drewN ?_ _ | refine blk_drew ?_ | refine blk_alloc ?_ _)); exact BK172.out⟩, ⟨by (with_reducible repeat (first | refine blk_drewN ?_ _ | refine blk_drew ?_ | refine blk_alloc ?_ _)); exact BK173.out⟩, ⟨by repeat (first | (with_reducible first | exact HB.out | apply below_alloc | apply pw_below_drewN | apply below_drew1 | refine below_set ?_ GE172.out | refine below_set ?_ GE173.out) | exact HB.out)⟩⟩
  case rest =>
    clear HC4
    try clear c1
    try clear c2
    try clear p2
    try clear c3
    try clear c7
    try clear c10
    try clear c12
    try clear c17
    try clear c18
    try clear hcz13_0
    try clear hcz13_1
    try clear hcz15_0
    try clear hcz18_0
    try clear hcz18_1
    try clear hcz8_0
    try clear hcz8_1
    try clear hfz13_0
    try clear hfz13_1
    try clear hfz15_0
    try clear hfz18_0
    try clear hfz18_1
    try clear hfz8_0
    try clear hfz8_1
    obtain ⟨kq, x23_3, rfl, HA, HJ3, BK172, BK173, HB⟩ := hcut
    cases kq with
    | zero => exact absurd HA.out (by simp [graph_Check.j0])
    | succ kj3 =>
      have H := HA.out
      clear HA
      simp only [graph_Check.j0] at H
      by_cases c20 : x23_3 = true
      · subst c20
        have H1 : (some (0, 1)) = some (r1, r2) := by rw [if_pos rfl] at H; exact H
        clear H
        have H := H1
        clear H1
        simp only [Option.some.injEq, Prod.mk.injEq] at H
        obtain ⟨rfl, rfl⟩ := H
        go_wp2
        go_ret2
        exact ⟨by first | rfl | (simp [errW_none, errW_some] <;> rfl) | (simp [*, errW_none, errW_some] <;> rfl), by repeat (first | (with_reducible first | exact HB.out | apply below_alloc | apply pw_below_drewN | apply below_drew1 | refine below_set ?_ GE172.out | refine below_set ?_ GE173.out) | exact HB.out)⟩
      · replace c20 := Bool.eq_false_iff.mpr c20
        subst c20
        have H1 : (graph_Check.l0 kj3 l1 l2_0 (l2_0.length : Int) 0 a0 l1) = some (r1, r2) := by rw [if_neg (show ¬ (false = true) by decide)] at H; exact H
        clear H
        have H := H1
        clear H1
        have H' := Aside0.mk H
        clear H
        have hnb21 := NB172_173.out
        have hnc21 := NB173_172.out
        have hcz22_0 : wc.cell? ⟨gb172, 0, none⟩ = some (.slice A2_0 l2_0.length c2_0) := (blk_cell BK172.out 0).trans rfl
        have hfz22_0 := blk_frozen BK172.out 0
        go_wp2
        go_loopg [27] kj3 (fun kq v27 w' => ∃ (x27_2 : Int), v27 = .int .i64 x27_2 ∧ Aside0 (graph_Check.l0 kq l1 l2_0 (l2_0.length : Int) x27_2 a0 l1 = some (r1, r2)) ∧ Aside0 (kq ≤ kj3) ∧ Aside0 (w'.heap[gb172]? = some (.cells #[(.slice A2_0 l2_0.length c2_0)] 25 (0, 0))) ∧ Aside0 (w'.heap[gb173]? = some (.cells #[.int .i64 a0, (.slice A1 l1.length c1)] 54 (0, 0))) ∧ Aside0 (Below w.heap.size w w'))
        case atStart => exact ⟨(0), (by first | rfl | (simp; done) | (simp [*]; done)), H', ⟨Nat.le_refl _⟩, ⟨by (with_reducible repeat (first | refine blk_drewN ?_ _ | refine blk_drew ?_ | refine blk_alloc ?_ _)); exact BK172.out⟩, ⟨by (with_reducible repeat (first | refine blk_drewN ?_ _ | refine blk_drew ?_ | refine blk_alloc ?_ _)); exact BK173.out⟩, ⟨by repeat (first | (with_reducible first | exact HB.out | apply below_alloc | apply pw_below_drewN | apply below_drew1 | refine below_set ?_ GE172.out | refine below_set ?_ GE173.out) | exact HB.out)⟩⟩
        case round =>
          clear H'
          try clear c1
          try clear c2
          try clear p2
          try clear c3
          try clear c7
          try clear c10
          try clear c12
          try clear c17
          try clear c18
          try clear c20
          try clear c21
          try clear hcz13_0
          try clear hcz13_1
          try clear hcz15_0
          try clear hcz18_0
          try clear hcz18_1
          try clear hcz22_0
          try clear hcz8_0
          try clear hcz8_1
          try clear hfz13_0
          try clear hfz13_1
          try clear hfz15_0
          try clear hfz18_0
          try clear hfz18_1
          try clear hfz22_0
          try clear hfz8_0
          try clear hfz8_1
          try clear p2
          obtain ⟨x27_2, rfl, HA, HK2, BK172, BK173, HB⟩ := hrel
          cases gk with
          | zero => exact absurd HA.out (by simp [graph_Check.l0])
          | succ k2 =>
            have H := HA.out
            clear HA
            simp only [graph_Check.l0] at H
            by_cases c23 : x27_2 < (l2_0.length : Int)
            · rw [if_pos c23] at H
              have c23b0 : decide (x27_2 < (l2_0.length : Int)) = true := decide_eq_true c23
              clear c23
              by_cases c24 : 0 ≤ x27_2
              · rw [if_pos c24] at H
                have c24b0 : decide (0 ≤ x27_2) = true := decide_eq_true c24
                clear c24
                by_cases c25 : x27_2 < (l2_0.length : Int)
                · rw [if_pos c25] at H
                  have c25b0 : decide (x27_2 < (l2_0.length : Int)) = true := decide_eq_true c25
                  clear c25
                  by_cases c26 : x27_2 < (l1.length : Int)
                  · rw [if_pos c26] at H
                    have c26b0 : decide (x27_2 < (l1.length : Int)) = true := decide_eq_true c26
                    clear c26
                    replace H := Option.bind_eq_some_iff.mp H
                    obtain ⟨t179, A270, H⟩ := H
                    replace H : ((graph_around.f k2 t179 ((rd_T39 l2_0 x27_2).f0)).bind fun t182 => ((slices_Equal_int_int.f k2 ((rd_T39 l2_0 x27_2).f1) t182).bind fun t185 => (if t185 = true then (graph_Check.l0 k2 l1 l2_0 (l2_0.length : Int) (wrap64 (x27_2 + 1)) a0 l1) else (some (x27_2, 0))))) = some (r1, r2) := H
                    have A27 := Aside0.mk A270
                    clear A270
                    replace H := Option.bind_eq_some_iff.mp H
                    obtain ⟨t182, A280, H⟩ := H
                    replace H : ((slices_Equal_int_int.f k2 ((rd_T39 l2_0 x27_2).f1) t182).bind fun t185 => (if t185 = true then (graph_Check.l0 k2 l1 l2_0 (l2_0.length : Int) (wrap64 (x27_2 + 1)) a0 l1) else (some (x27_2, 0)))) = some (r1, r2) := H
                    have A28 := Aside0.mk A280
                    clear A280
                    replace H := Option.bind_eq_some_iff.mp H
                    obtain ⟨t185, A290, H⟩ := H
                    replace H : (if t185 = true then (graph_Check.l0 k2 l1 l2_0 (l2_0.length : Int) (wrap64 (x27_2 + 1)) a0 l1) else (some (x27_2, 0))) = some (r1, r2) := H
                    have A29 := Aside0.mk A290
                    clear A290
                    by_cases c30 : t185 = true
                    · subst c30
                      have H1 : (graph_Check.l0 k2 l1 l2_0 (l2_0.length : Int) (wrap64 (x27_2 + 1)) a0 l1) = some (r1, r2) := by rw [if_pos rfl] at H; exact H
                      clear H
                      have H := H1
                      clear H1
                      have H' := Aside0.mk H
                      clear H
                      have p176 : 0 ≤ (x27_2 : Int) := of_decide_eq_true (by first | (with_reducible assumption) | assumption)
                      have q176 : x27_2 < (l2_0.length : Int) := of_decide_eq_true (by first | (with_reducible assumption) | assumption)
                      obtain ⟨ad176, A176_1, c176_1, e176, hx176_0, hx176_1, hl176_1, hi176_1⟩ := at_T39 HR2_0.out x27_2 p176 q176
                      cases e176
                      replace hx176_0 := (HB.out.cell (World.block_lt_of_cell? w _ hx176_0)).trans hx176_0
                      replace hx176_1 := (HB.out.cell (World.block_lt_of_cell? w _ hx176_1)).trans hx176_1
                      have HR176_1 := Aside0.mk hi176_1
                      have HC176_1 := Aside0.mk hl176_1
                      clear hi176_1 hl176_1
                      replace p176 := eq_true p176
                      replace q176 := eq_true q176
                      try go_wp2_with (first | ((with_reducible refine gate_dst (N := 10) rfl ?_); (try (refine gate_guard (by rfl) ?_; dsimp only)); refine box_event ?hg (N := 10) ?hd (cs := #[.int .i64 0, .slice none 0 0]) (t := 39) ?hr ?_; (case hd => rfl); (case hg => rfl); (case hr => first | (go_simp; done) | (go_simp; rfl)); intro gb177 hg w31 hbox hb; have n0_ := Aside0.mk (blk_below (g := gb172) (o := .cells #[.slice (some ad176) l2_0.length c2_0] 25 (0, 0)) (by (with_reducible repeat (first | refine blk_drewN ?_ _ | refine blk_drew ?_ | refine blk_alloc ?_ _)); exact BK172.out) hb); have n1_ := Aside0.mk (blk_below (g := gb173) (o := .cells #[.int .i64 a0, .slice A1 l1.length c1] 54 (0, 0)) (by (with_reducible repeat (first | refine blk_drewN ?_ _ | refine blk_drew ?_ | refine blk_alloc ?_ _)); exact BK173.out) hb); have n2_ := Aside0.mk (below_step (by repeat (first | (with_reducible first | exact HB.out | apply below_alloc | apply pw_below_drewN | apply below_drew1 | refine below_set ?_ GE172.out | refine below_set ?_ GE173.out) | exact HB.out)) hb); have n3_ := Aside0.mk (hbox); have n4_ := Aside0.mk ((by rw [hg]; exact (below_size (by repeat (first | (with_reducible first | exact HB.out | apply below_alloc | apply pw_below_drewN | apply below_drew1 | refine below_set ?_ GE172.out | refine below_set ?_ GE173.out) | exact HB.out))) : w.heap.size ≤ gb177)); have n5_ := Aside0.mk ((by rw [hg]; exact (below_size (by repeat (first | (with_reducible first | exact HB.out | apply below_alloc | apply pw_below_drewN | apply below_drew1 | refine below_set ?_ GE172.out | refine below_set ?_ GE173.out) | exact HB.out))) : w.heap.size ≤ gb177)); have n6_ := Aside0.mk ((by rw [hg]; exact Nat.ne_of_lt (blk_lt (g := gb172) (o := .cells #[.slice (some ad176) l2_0.length c2_0] 25 (0, 0)) (by (with_reducible repeat (first | refine blk_drewN ?_ _ | refine blk_drew ?_ | refine blk_alloc ?_ _)); exact BK172.out)) : gb172 ≠ gb177)); have n7_ := Aside0.mk ((by rw [hg]; exact Nat.ne_of_gt (blk_lt (g := gb172) (o := .cells #[.slice (some ad176) l2_0.length c2_0] 25 (0, 0)) (by (with_reducible repeat (first | refine blk_drewN ?_ _ | refine blk_drew ?_ | refine blk_alloc ?_ _)); exact BK172.out)) : gb177 ≠ gb172)); have n8_ := Aside0.mk ((by rw [hg]; exact Nat.ne_of_lt (blk_lt (g := gb173) (o := .cells #[.int .i64 a0, .slice A1 l1.length c1] 54 (0, 0)) (by (with_reducible repeat (first | refine blk_drewN ?_ _ | refine blk_drew ?_ | refine blk_alloc ?_ _)); exact BK173.out)) : gb173 ≠ gb177)); have n9_ := Aside0.mk ((by rw [hg]; exact Nat.ne_of_gt (blk_lt (g := gb173) (o := .cells #[.int .i64 a0, .slice A1 l1.length c1] 54 (0, 0)) (by (with_reducible repeat (first | refine blk_drewN ?_ _ | refine blk_drew ?_ | refine blk_alloc ?_ _)); exact BK173.out)) : gb177 ≠ gb173)); clear BK172; clear BK173; clear HB; have BK172 := n0_; have BK173 := n1_; have HB := n2_; have BK177 := n3_; have GW177 := n4_; have GE177 := n5_; have NB172_177 := n6_; have NB177_172 := n7_; have NB173_177 := n8_; have NB177_173 := n9_; clear n0_ n1_ n2_ n3_ n4_ n5_ n6_ n7_ n8_ n9_; clear hb hbox hg; have hnb32 := NB177_172.out; have hnc32 := NB172_177.out; have hnb33 := NB177_173.out; have hnc33 := NB173_177.out; have hcz34_0 : w31.cell? ⟨gb177, 0, none⟩ = some (.int .i64 0) := (blk_cell BK177.out 0).trans rfl; have hcz34_1 : w31.cell? ⟨gb177, 1, none⟩ = some (.slice none 0 0) := (blk_cell BK177.out 1).trans rfl; have hfz34_0 := blk_frozen BK177.out 0; have hfz34_1 := blk_frozen BK177.out 1))
                      have n0_ : Aside0 (((w31.setCell ⟨gb177, 0, none⟩ (.int .i64 ((rd_T39 l2_0 x27_2).f0))).setCell ⟨gb177, 1, none⟩ (.slice A176_1 ((rd_T39 l2_0 x27_2).f1).length c176_1)).heap[gb172]? = some (.cells #[.slice (some ad176) l2_0.length c2_0] 25 (0, 0))) := ⟨by (with_reducible repeat (first | refine blk_drewN ?_ _ | refine blk_drew ?_ | refine blk_alloc ?_ _)); refine blk_far ?_ NB172_177.out _; (with_reducible repeat (first | refine blk_drewN ?_ _ | refine blk_drew ?_ | refine blk_alloc ?_ _)); refine blk_far ?_ NB172_177.out _; (with_reducible repeat (first | refine blk_drewN ?_ _ | refine blk_drew ?_ | refine blk_alloc ?_ _)); exact BK172.out⟩
                      have n1_ : Aside0 (((w31.setCell ⟨gb177, 0, none⟩ (.int .i64 ((rd_T39 l2_0 x27_2).f0))).setCell ⟨gb177, 1, none⟩ (.slice A176_1 ((rd_T39 l2_0 x27_2).f1).length c176_1)).heap[gb173]? = some (.cells #[.int .i64 a0, .slice A1 l1.length c1] 54 (0, 0))) := ⟨by (with_reducible repeat (first | refine blk_drewN ?_ _ | refine blk_drew ?_ | refine blk_alloc ?_ _)); refine blk_far ?_ NB173_177.out _; (with_reducible repeat (first | refine blk_drewN ?_ _ | refine blk_drew ?_ | refine blk_alloc ?_ _)); refine blk_far ?_ NB173_177.out _; (with_reducible repeat (first | refine blk_drewN ?_ _ | refine blk_drew ?_ | refine blk_alloc ?_ _)); exact BK173.out⟩
                      have n2_ : Aside0 (((w31.setCell ⟨gb177, 0, none⟩ (.int .i64 ((rd_T39 l2_0 x27_2).f0))).setCell ⟨gb177, 1, none⟩ (.slice A176_1 ((rd_T39 l2_0 x27_2).f1).length c176_1)).heap[gb177]? = some (.cells #[.int .i64 ((rd_T39 l2_0 x27_2).f0), .slice A176_1 ((rd_T39 l2_0 x27_2).f1).length c176_1] 39 (0, 0))) := ⟨by (with_reducible repeat (first | refine blk_drewN ?_ _ | refine blk_drew ?_ | refine blk_alloc ?_ _)); refine blk_put (cs := #[.int .i64 ((rd_T39 l2_0 x27_2).f0), .slice none 0 0]) ?_ 1 _ rfl; (with_reducible repeat (first | refine blk_drewN ?_ _ | refine blk_drew ?_ | refine blk_alloc ?_ _)); refine blk_put (cs := #[.int .i64 0, .slice none 0 0]) ?_ 0 _ rfl; (with_reducible repeat (first | refine blk_drewN ?_ _ | refine blk_drew ?_ | refine blk_alloc ?_ _)); exact BK177.out⟩
                      have n3_ : Aside0 (Below w.heap.size w ((w31.setCell ⟨gb177, 0, none⟩ (.int .i64 ((rd_T39 l2_0 x27_2).f0))).setCell ⟨gb177, 1, none⟩ (.slice A176_1 ((rd_T39 l2_0 x27_2).f1).length c176_1))) := ⟨by repeat (first | (with_reducible first | exact HB.out | apply below_alloc | apply pw_below_drewN | apply below_drew1 | refine below_set ?_ GE172.out | refine below_set ?_ GE173.out | refine below_set ?_ GE177.out) | exact HB.out)⟩
                      (try clear BK172)
                      (try clear BK173)
                      (try clear BK177)
                      (try clear HB)
                      generalize ((w31.setCell ⟨gb177, 0, none⟩ (.int .i64 ((rd_T39 l2_0 x27_2).f0))).setCell ⟨gb177, 1, none⟩ (.slice A176_1 ((rd_T39 l2_0 x27_2).f1).length c176_1)) = w35 at n0_ n1_ n2_ n3_ ⊢
                      have BK172 := n0_
                      have BK173 := n1_
                      have BK177 := n2_
                      have HB := n3_
                      clear n0_ n1_ n2_ n3_
                      have n0_ := Aside0.mk (blk_drew BK172.out)
                      have n1_ := Aside0.mk (blk_drew BK173.out)
                      have n2_ := Aside0.mk (blk_drew BK177.out)
                      have n3_ := Aside0.mk (below_drew1 HB.out)
                      clear BK172
                      clear BK173
                      clear BK177
                      clear HB
                      have BK172 := n0_
                      have BK173 := n1_
                      have BK177 := n2_
                      have HB := n3_
                      clear n0_ n1_ n2_ n3_
                      have p178 : 0 ≤ (x27_2 : Int) := of_decide_eq_true (by first | (with_reducible assumption) | assumption)
                      have q178 : x27_2 < (l1.length : Int) := of_decide_eq_true (by first | (with_reducible assumption) | assumption)
                      obtain ⟨ad178, A178_0, c178_0, e178, hx178_0, hl178_0, hi178_0⟩ := at_L1 HR1.out x27_2 p178 q178
                      have hw178_0 := hx178_0
                      cases e178
                      replace hx178_0 := (HB.out.cell (World.block_lt_of_cell? w _ hx178_0)).trans hx178_0
                      have HR178_0 := Aside0.mk hi178_0
                      have HC178_0 := Aside0.mk hl178_0
                      clear hi178_0 hl178_0
                      replace p178 := eq_true p178
                      replace q178 := eq_true q178
                      refine start_ (n := 13) (S := fun w' => w'.cell? ⟨gb177, 0, none⟩ = some (.int .i64 ((rd_T39 l2_0 x27_2).f0)) ∧ w'.cell? ⟨gb177, 1, none⟩ = some (.slice A176_1 ((rd_T39 l2_0 x27_2).f1).length c176_1) ∧ w'.cell? ⟨gb173, 0, none⟩ = some (.int .i64 a0) ∧ w'.cell? ⟨gb173, 1, none⟩ = some (.slice (some ad178) l1.length c1) ∧ w'.cell? (ad178.add (x27_2).toNat) = some (.slice A178_0 (rd_L1 l1 x27_2).length c178_0)) (ds := []) #[false, false, false, false, false, false, false, false, false, false, false, false, false] (by kernel_rfl) rfl rfl ⟨(blk_cell BK177.out 0).trans rfl, (blk_cell BK177.out 1).trans rfl, (blk_cell BK173.out 0).trans rfl, (blk_cell BK173.out 1).trans rfl, ((HB.out.cell (World.block_lt_of_cell? w _ hw178_0)).trans hw178_0)⟩ (fun hHeld => ?_); refine with_tabW graph_Check.tab7 graph_Check.bits7 (fun HT_ HW_ => ?_)
                      generalize w35.drew = w36 at BK172 BK173 BK177 HB HR178_0 hx178_0 hHeld ⊢
                      refine pure_ (i := 0) (N := some 32) (v := ?_) (a' := ?_) #[true, false, false, false, false, false, false, false, false, false, false, false, false] rfl rfl (any_of HT_.out (by kernel_rfl)) (fun _ _ _ h => h) (Or.inl ⟨by rfl, ?_⟩) ?_ ?_
                      rotate_left
                      · intro w'
                        go_simp
                        with_reducible rfl
                      rotate_left
                      · simp only [Act.put, List.setIfInBounds_toArray, List.set_cons_zero, List.set_cons_succ, i64_w, i32_w]
                        rfl
                      refine pure_ (i := 3) (N := some 35) (v := ?_) (a' := ?_) #[true, false, false, true, false, false, false, false, false, false, false, false, false] rfl rfl (any_of HT_.out (by kernel_rfl)) (fun _ _ _ h => h) (Or.inl ⟨by rfl, ?_⟩) ?_ ?_
                      rotate_left
                      · intro w'
                        go_simp
                        with_reducible rfl
                      rotate_left
                      · simp only [Act.put, List.setIfInBounds_toArray, List.set_cons_zero, List.set_cons_succ, i64_w, i32_w]
                        rfl
                      refine pure_ (i := 4) (N := some 36) (v := ?_) (a' := ?_) #[true, false, false, true, true, false, false, false, false, false, false, false, false] rfl rfl (any_of HT_.out (by kernel_rfl)) (fun _ _ _ h => h) (Or.inl ⟨by rfl, ?_⟩) ?_ ?_
                      rotate_left
                      · intro w'
                        go_simp
                        with_reducible rfl
                      rotate_left
                      · simp only [Act.put, List.setIfInBounds_toArray, List.set_cons_zero, List.set_cons_succ, i64_w, i32_w]
                        rfl
                      refine pure_ (i := 5) (N := some 37) (v := ?_) (a' := ?_) #[true, false, false, true, true, true, false, false, false, false, false, false, false] rfl rfl (any_of HT_.out (by kernel_rfl)) (fun _ _ _ h => h) (Or.inl ⟨by rfl, ?_⟩) ?_ ?_
                      rotate_left
                      · intro w'
                        go_simp
                        with_reducible rfl
                      rotate_left
                      · simp only [Act.put, List.setIfInBounds_toArray, List.set_cons_zero, List.set_cons_succ, i64_w, i32_w]
                        rfl
                      refine pure_ (i := 8) (N := some 40) (v := ?_) (a' := ?_) #[true, false, false, true, true, true, false, false, true, false, false, false, false] rfl rfl (any_of HT_.out (by kernel_rfl)) (fun _ _ _ h => h) (Or.inl ⟨by rfl, ?_⟩) ?_ ?_
                      rotate_left
                      · intro w'
                        go_simp
                        with_reducible rfl
                      rotate_left
                      · simp only [Act.put, List.setIfInBounds_toArray, List.set_cons_zero, List.set_cons_succ, i64_w, i32_w]
                        rfl
                      refine take_ (i := 1) (N := some 33) (v := ?_) (a' := ?_) #[true, true, false, true, true, true, false, false, true, false, false, false, false] rfl rfl (take_ofW HT_.out HW_.out (by kernel_rfl)) (fun _ _ _ h => h) (Or.inl ⟨by rfl, ?_⟩) hHeld ?_ ?_
                      rotate_left
                      · rintro w' ⟨s0, s1, s2, s3, s4⟩
                        go_simp
                        with_reducible rfl
                      rotate_left
                      · simp only [Act.put, List.setIfInBounds_toArray, List.set_cons_zero, List.set_cons_succ, i64_w, i32_w]
                        rfl
                      refine take_ (i := 2) (N := some 34) (v := ?_) (a' := ?_) #[true, true, true, true, true, true, false, false, true, false, false, false, false] rfl rfl (take_ofW HT_.out HW_.out (by kernel_rfl)) (fun _ _ _ h => h) (Or.inl ⟨by rfl, ?_⟩) hHeld ?_ ?_
                      rotate_left
                      · rintro w' ⟨s0, s1, s2, s3, s4⟩
                        go_simp
                        with_reducible rfl
                      rotate_left
                      · simp only [Act.put, List.setIfInBounds_toArray, List.set_cons_zero, List.set_cons_succ, i64_w, i32_w]
                        rfl
                      refine take_ (i := 6) (N := some 38) (v := ?_) (a' := ?_) #[true, true, true, true, true, true, true, false, true, false, false, false, false] rfl rfl (take_ofW HT_.out HW_.out (by kernel_rfl)) (fun _ _ _ h => h) (Or.inl ⟨by rfl, ?_⟩) hHeld ?_ ?_
                      rotate_left
                      · rintro w' ⟨s0, s1, s2, s3, s4⟩
                        go_simp
                        with_reducible rfl
                      rotate_left
                      · simp only [Act.put, List.setIfInBounds_toArray, List.set_cons_zero, List.set_cons_succ, i64_w, i32_w]
                        rfl
                      refine take_ (i := 9) (N := some 41) (v := ?_) (a' := ?_) #[true, true, true, true, true, true, true, false, true, true, false, false, false] rfl rfl (take_ofW HT_.out HW_.out (by kernel_rfl)) (fun _ _ _ h => h) (Or.inl ⟨by rfl, ?_⟩) hHeld ?_ ?_
                      rotate_left
                      · rintro w' ⟨s0, s1, s2, s3, s4⟩
                        go_simp
                        with_reducible rfl
                      rotate_left
                      · simp only [Act.put, List.setIfInBounds_toArray, List.set_cons_zero, List.set_cons_succ, i64_w, i32_w]
                        rfl
                      refine one_ (i := 7) (N := some 39) #[true, true, true, true, true, true, true, true, true, true, false, false, false] rfl rfl (one_of HT_.out (by kernel_rfl)) (by decide) (fun K hK => ?_)
                      refine goes_ Try.func36 (by kernel_rfl) rfl #[.agg #[.int .i64 a0, .slice (some ad178) l1.length c1], .slice A178_0 (rd_L1 l1 x27_2).length c178_0] (by rfl) rfl rfl (by (try simp only [List.map_toArray, List.map_cons, List.map_nil]); first | done | rfl | (simp only [List.length_drop, List.length_take]; rfl)) ?_
                      with_reducible refine (graph_space_keys.calls k2 a0 _ _ l1 _ _ (rd_L1 l1 x27_2) t179 _ ?side1 ?side2 ?side3 ?side4 A27.out).mono ?_
                      (case side1 => repeat (first | exact (Kd.C_below HR1.out HB.out) | (with_reducible refine Kd.C_alloc ?_ _) | (with_reducible refine Kd.C_drewN ?_ _) | (with_reducible refine Kd.C_drew ?_)))
                      (case side2 => exact HC1.out)
                      (case side3 => repeat (first | exact (Kd.C_below HR178_0.out HB.out) | (with_reducible refine Kd.C_alloc ?_ _) | (with_reducible refine Kd.C_drewN ?_ _) | (with_reducible refine Kd.C_drew ?_)))
                      (case side4 => exact HC178_0.out)
                      rintro e w37 ⟨v180, rfl, ho0, hb⟩
                      refine ⟨_, rfl, ?_⟩
                      have n0_ := Aside0.mk (Kd.R_lower ho0 (below_size (by repeat (first | (with_reducible first | exact HB.out | apply below_alloc | apply pw_below_drewN | apply below_drew1 | refine below_set ?_ GE172.out | refine below_set ?_ GE173.out | refine below_set ?_ GE177.out) | exact HB.out))))
                      have n1_ := Aside0.mk (blk_below (g := gb172) (o := .cells #[.slice (some ad176) l2_0.length c2_0] 25 (0, 0)) (by (with_reducible repeat (first | refine blk_drewN ?_ _ | refine blk_drew ?_ | refine blk_alloc ?_ _)); exact BK172.out) hb)
                      have n2_ := Aside0.mk (blk_below (g := gb173) (o := .cells #[.int .i64 a0, .slice (some ad178) l1.length c1] 54 (0, 0)) (by (with_reducible repeat (first | refine blk_drewN ?_ _ | refine blk_drew ?_ | refine blk_alloc ?_ _)); exact BK173.out) hb)
                      have n3_ := Aside0.mk (blk_below (g := gb177) (o := .cells #[.int .i64 ((rd_T39 l2_0 x27_2).f0), .slice A176_1 ((rd_T39 l2_0 x27_2).f1).length c176_1] 39 (0, 0)) (by (with_reducible repeat (first | refine blk_drewN ?_ _ | refine blk_drew ?_ | refine blk_alloc ?_ _)); exact BK177.out) hb)
                      have n4_ := Aside0.mk (below_step (by repeat (first | (with_reducible first | exact HB.out | apply below_alloc | apply pw_below_drewN | apply below_drew1 | refine below_set ?_ GE172.out | refine below_set ?_ GE173.out | refine below_set ?_ GE177.out) | exact HB.out)) hb)
                      clear BK172
                      clear BK173
                      clear BK177
                      clear HB
                      have HO181 := n0_
                      have BK172 := n1_
                      have BK173 := n2_
                      have BK177 := n3_
                      have HB := n4_
                      clear n0_ n1_ n2_ n3_ n4_
                      (try clear hb)
                      (try clear hb2)
                      (try clear hk)
                      (try clear hi)
                      (try clear ho0)
                      obtain ⟨Ao38, co38, eo38⟩ := Kd.R_slice HO181.out
                      (first | subst eo38 | (injection eo38 with f1_ f2_ f3_; have f4_ := f1_.symm; have f5_ := f3_.symm; clear f1_ f2_ f3_; subst f4_; subst f5_))
                      refine hK.out _ _ ⟨(blk_cell BK177.out 0).trans rfl, (blk_cell BK177.out 1).trans rfl, (blk_cell BK173.out 0).trans rfl, (blk_cell BK173.out 1).trans rfl, ((HB.out.cell (World.block_lt_of_cell? w _ hw178_0)).trans hw178_0)⟩ (fun hHeld => ?_)
                      clear hK K
                      refine norm_ (a' := ?_) ?_ ?_
                      rotate_left
                      · show Act.put _ (some 39) _ = _
                        simp only [Act.put, List.setIfInBounds_toArray, List.set_cons_zero, List.set_cons_succ, i64_w, i32_w]
                        rfl
                      refine one_ (i := 10) (N := some 42) #[true, true, true, true, true, true, true, true, true, true, true, false, false] rfl rfl (one_of HT_.out (by kernel_rfl)) (by decide) (fun K hK => ?_)
                      refine goes_ Try.func39 (by kernel_rfl) rfl #[.slice Ao38 t179.length co38, .int .i64 ((rd_T39 l2_0 x27_2).f0)] (by rfl) rfl rfl (by (try simp only [List.map_toArray, List.map_cons, List.map_nil]); first | done | rfl | (simp only [List.length_drop, List.length_take]; rfl)) ?_
                      with_reducible refine (graph_around.calls k2 _ _ t179 ((rd_T39 l2_0 x27_2).f0) t182 _ ?side1 ?side2 A28.out).mono ?_
                      (case side1 => repeat (first | exact (Kd.R_reads' HO181.out).2.2 | (with_reducible refine Kd.C_alloc ?_ _) | (with_reducible refine Kd.C_drewN ?_ _) | (with_reducible refine Kd.C_drew ?_)))
                      (case side2 => exact (Kd.R_reads' HO181.out).2.1)
                      rintro e w39 ⟨v183, rfl, ho0, hb⟩
                      refine ⟨_, rfl, ?_⟩
                      have n0_ := Aside0.mk (Kd.R_elder' (by (with_reducible repeat (first | apply Kd.R_alloc | apply Kd.R_drewN | apply Kd.R_drew)); exact HO181.out) (Kd.R_base ho0) hb)
                      have n1_ := Aside0.mk (Kd.R_lower (Kd.R_new' ho0 (Kd.R_lt (by (with_reducible repeat (first | apply Kd.R_alloc | apply Kd.R_drewN | apply Kd.R_drew)); exact HO181.out))) (below_size (by repeat (first | (with_reducible first | exact HB.out | apply below_alloc | apply pw_below_drewN | apply below_drew1 | refine below_set ?_ GE172.out | refine below_set ?_ GE173.out | refine below_set ?_ GE177.out) | exact HB.out))))
                      have n2_ := Aside0.mk (blk_below (g := gb172) (o := .cells #[.slice (some ad176) l2_0.length c2_0] 25 (0, 0)) (by (with_reducible repeat (first | refine blk_drewN ?_ _ | refine blk_drew ?_ | refine blk_alloc ?_ _)); exact BK172.out) hb)
                      have n3_ := Aside0.mk (blk_below (g := gb173) (o := .cells #[.int .i64 a0, .slice (some ad178) l1.length c1] 54 (0, 0)) (by (with_reducible repeat (first | refine blk_drewN ?_ _ | refine blk_drew ?_ | refine blk_alloc ?_ _)); exact BK173.out) hb)
                      have n4_ := Aside0.mk (blk_below (g := gb177) (o := .cells #[.int .i64 ((rd_T39 l2_0 x27_2).f0), .slice A176_1 ((rd_T39 l2_0 x27_2).f1).length c176_1] 39 (0, 0)) (by (with_reducible repeat (first | refine blk_drewN ?_ _ | refine blk_drew ?_ | refine blk_alloc ?_ _)); exact BK177.out) hb)
                      have n5_ := Aside0.mk (below_step (by repeat (first | (with_reducible first | exact HB.out | apply below_alloc | apply pw_below_drewN | apply below_drew1 | refine below_set ?_ GE172.out | refine below_set ?_ GE173.out | refine below_set ?_ GE177.out) | exact HB.out)) hb)
                      clear HO181
                      clear BK172
                      clear BK173
                      clear BK177
                      clear HB
                      have HO181 := n0_
                      have HO184 := n1_
                      have BK172 := n2_
                      have BK173 := n3_
                      have BK177 := n4_
                      have HB := n5_
                      clear n0_ n1_ n2_ n3_ n4_ n5_
                      (try clear hb)
                      (try clear hb2)
                      (try clear hk)
                      (try clear hi)
                      (try clear ho0)
                      obtain ⟨Ao40, co40, eo40⟩ := Kd.R_slice HO184.out
                      (first | subst eo40 | (injection eo40 with f1_ f2_ f3_; have f4_ := f1_.symm; have f5_ := f3_.symm; clear f1_ f2_ f3_; subst f4_; subst f5_))
                      refine hK.out _ _ ⟨(blk_cell BK177.out 0).trans rfl, (blk_cell BK177.out 1).trans rfl, (blk_cell BK173.out 0).trans rfl, (blk_cell BK173.out 1).trans rfl, ((HB.out.cell (World.block_lt_of_cell? w _ hw178_0)).trans hw178_0)⟩ (fun hHeld => ?_)
                      clear hK K
                      refine norm_ (a' := ?_) ?_ ?_
                      rotate_left
                      · show Act.put _ (some 42) _ = _
                        simp only [Act.put, List.setIfInBounds_toArray, List.set_cons_zero, List.set_cons_succ, i64_w, i32_w]
                        rfl
                      refine one_ (i := 11) (N := some 43) #[true, true, true, true, true, true, true, true, true, true, true, true, false] rfl rfl (one_of HT_.out (by kernel_rfl)) (by decide) (fun K hK => ?_)
                      refine goes_ Try.func40 (by kernel_rfl) rfl #[.slice A176_1 ((rd_T39 l2_0 x27_2).f1).length c176_1, .slice Ao40 t182.length co40] (by rfl) rfl rfl (by (try simp only [List.map_toArray, List.map_cons, List.map_nil]); first | done | rfl | (simp only [List.length_drop, List.length_take]; rfl)) ?_
                      with_reducible refine (slices_Equal_int_int.calls k2 _ _ ((rd_T39 l2_0 x27_2).f1) _ _ t182 true _ ?side1 ?side2 ?side3 ?side4 A29.out).mono ?_
                      (case side1 => repeat (first | exact (Kd.C_below HR176_1.out HB.out) | (with_reducible refine Kd.C_alloc ?_ _) | (with_reducible refine Kd.C_drewN ?_ _) | (with_reducible refine Kd.C_drew ?_)))
                      (case side2 => exact HC176_1.out)
                      (case side3 => repeat (first | exact (Kd.R_reads' HO184.out).2.2 | (with_reducible refine Kd.C_alloc ?_ _) | (with_reducible refine Kd.C_drewN ?_ _) | (with_reducible refine Kd.C_drew ?_)))
                      (case side4 => exact (Kd.R_reads' HO184.out).2.1)
                      rintro e w' ⟨rfl, ⟨nd, rfl⟩⟩
                      refine ⟨_, rfl, ?_⟩
                      refine hK.out _ _ ⟨(blk_cell BK177.out 0).trans rfl, (blk_cell BK177.out 1).trans rfl, (blk_cell BK173.out 0).trans rfl, (blk_cell BK173.out 1).trans rfl, ((HB.out.cell (World.block_lt_of_cell? w _ hw178_0)).trans hw178_0)⟩ (fun hHeld => ?_)
                      clear hK K
                      refine norm_ (a' := ?_) ?_ ?_
                      rotate_left
                      · show Act.put _ (some 43) _ = _
                        simp only [Act.put, List.setIfInBounds_toArray, List.set_cons_zero, List.set_cons_succ, i64_w, i32_w]
                        rfl
                      refine pure_ (i := 12) (N := some 44) (v := ?_) (a' := ?_) #[true, true, true, true, true, true, true, true, true, true, true, true, true] rfl rfl (any_of HT_.out (by kernel_rfl)) (fun _ _ _ h => h) (Or.inl ⟨by rfl, ?_⟩) ?_ ?_
                      rotate_left
                      · intro w'
                        go_simp
                        with_reducible rfl
                      rotate_left
                      · simp only [Act.put, List.setIfInBounds_toArray, List.set_cons_zero, List.set_cons_succ, i64_w, i32_w]
                        rfl
                      refine done_ (done_of HT_.out (by kernel_rfl)) ?_
                      try go_wp2
                      go_roundg k2
                      case measure => have := HJ3.out; have := HK2.out; omega
                      case rel => exact ⟨(wrap64 (x27_2 + 1)), (by first | rfl | (simp; done) | (simp [*]; done)), H', ⟨by have := HJ3.out; have := HK2.out; omega⟩, ⟨by (with_reducible repeat (first | refine blk_drewN ?_ _ | refine blk_drew ?_ | refine blk_alloc ?_ _)); exact BK172.out⟩, ⟨by (with_reducible repeat (first | refine blk_drewN ?_ _ | refine blk_drew ?_ | refine blk_alloc ?_ _)); exact BK173.out⟩, ⟨by repeat (first | (with_reducible first | exact HB.out | apply below_alloc | apply pw_below_drewN | apply below_drew1 | refine below_set ?_ GE172.out | refine below_set ?_ GE173.out | refine below_set ?_ GE177.out) | exact HB.out)⟩⟩
                    · replace c30 := Bool.eq_false_iff.mpr c30
                      subst c30
                      have H1 : (some (x27_2, 0)) = some (r1, r2) := by rw [if_neg (show ¬ (false = true) by decide)] at H; exact H
                      clear H
                      have H := H1
                      clear H1
                      simp only [Option.some.injEq, Prod.mk.injEq] at H
                      obtain ⟨rfl, rfl⟩ := H
                      have p176 : 0 ≤ (x27_2 : Int) := of_decide_eq_true (by first | (with_reducible assumption) | assumption)
                      have q176 : x27_2 < (l2_0.length : Int) := of_decide_eq_true (by first | (with_reducible assumption) | assumption)
                      obtain ⟨ad176, A176_1, c176_1, e176, hx176_0, hx176_1, hl176_1, hi176_1⟩ := at_T39 HR2_0.out x27_2 p176 q176
                      cases e176
                      replace hx176_0 := (HB.out.cell (World.block_lt_of_cell? w _ hx176_0)).trans hx176_0
                      replace hx176_1 := (HB.out.cell (World.block_lt_of_cell? w _ hx176_1)).trans hx176_1
                      have HR176_1 := Aside0.mk hi176_1
                      have HC176_1 := Aside0.mk hl176_1
                      clear hi176_1 hl176_1
                      replace p176 := eq_true p176
                      replace q176 := eq_true q176
                      try go_wp2_with (first | ((with_reducible refine gate_dst (N := 10) rfl ?_); (try (refine gate_guard (by rfl) ?_; dsimp only)); refine box_event ?hg (N := 10) ?hd (cs := #[.int .i64 0, .slice none 0 0]) (t := 39) ?hr ?_; (case hd => rfl); (case hg => rfl); (case hr => first | (go_simp; done) | (go_simp; rfl)); intro gb177 hg w41 hbox hb; have n0_ := Aside0.mk (blk_below (g := gb172) (o := .cells #[.slice (some ad176) l2_0.length c2_0] 25 (0, 0)) (by (with_reducible repeat (first | refine blk_drewN ?_ _ | refine blk_drew ?_ | refine blk_alloc ?_ _)); exact BK172.out) hb); have n1_ := Aside0.mk (blk_below (g := gb173) (o := .cells #[.int .i64 a0, .slice A1 l1.length c1] 54 (0, 0)) (by (with_reducible repeat (first | refine blk_drewN ?_ _ | refine blk_drew ?_ | refine blk_alloc ?_ _)); exact BK173.out) hb); have n2_ := Aside0.mk (below_step (by repeat (first | (with_reducible first | exact HB.out | apply below_alloc | apply pw_below_drewN | apply below_drew1 | refine below_set ?_ GE172.out | refine below_set ?_ GE173.out) | exact HB.out)) hb); have n3_ := Aside0.mk (hbox); have n4_ := Aside0.mk ((by rw [hg]; exact (below_size (by repeat (first | (with_reducible first | exact HB.out | apply below_alloc | apply pw_below_drewN | apply below_drew1 | refine below_set ?_ GE172.out | refine below_set ?_ GE173.out) | exact HB.out))) : w.heap.size ≤ gb177)); have n5_ := Aside0.mk ((by rw [hg]; exact (below_size (by repeat (first | (with_reducible first | exact HB.out | apply below_alloc | apply pw_below_drewN | apply below_drew1 | refine below_set ?_ GE172.out | refine below_set ?_ GE173.out) | exact HB.out))) : w.heap.size ≤ gb177)); have n6_ := Aside0.mk ((by rw [hg]; exact Nat.ne_of_lt (blk_lt (g := gb172) (o := .cells #[.slice (some ad176) l2_0.length c2_0] 25 (0, 0)) (by (with_reducible repeat (first | refine blk_drewN ?_ _ | refine blk_drew ?_ | refine blk_alloc ?_ _)); exact BK172.out)) : gb172 ≠ gb177)); have n7_ := Aside0.mk ((by rw [hg]; exact Nat.ne_of_gt (blk_lt (g := gb172) (o := .cells #[.slice (some ad176) l2_0.length c2_0] 25 (0, 0)) (by (with_reducible repeat (first | refine blk_drewN ?_ _ | refine blk_drew ?_ | refine blk_alloc ?_ _)); exact BK172.out)) : gb177 ≠ gb172)); have n8_ := Aside0.mk ((by rw [hg]; exact Nat.ne_of_lt (blk_lt (g := gb173) (o := .cells #[.int .i64 a0, .slice A1 l1.length c1] 54 (0, 0)) (by (with_reducible repeat (first | refine blk_drewN ?_ _ | refine blk_drew ?_ | refine blk_alloc ?_ _)); exact BK173.out)) : gb173 ≠ gb177)); have n9_ := Aside0.mk ((by rw [hg]; exact Nat.ne_of_gt (blk_lt (g := gb173) (o := .cells #[.int .i64 a0, .slice A1 l1.length c1] 54 (0, 0)) (by (with_reducible repeat (first | refine blk_drewN ?_ _ | refine blk_drew ?_ | refine blk_alloc ?_ _)); exact BK173.out)) : gb177 ≠ gb173)); clear BK172; clear BK173; clear HB; have BK172 := n0_; have BK173 := n1_; have HB := n2_; have BK177 := n3_; have GW177 := n4_; have GE177 := n5_; have NB172_177 := n6_; have NB177_172 := n7_; have NB173_177 := n8_; have NB177_173 := n9_; clear n0_ n1_ n2_ n3_ n4_ n5_ n6_ n7_ n8_ n9_; clear hb hbox hg; have hnb42 := NB177_172.out; have hnc42 := NB172_177.out; have hnb43 := NB177_173.out; have hnc43 := NB173_177.out; have hcz44_0 : w41.cell? ⟨gb177, 0, none⟩ = some (.int .i64 0) := (blk_cell BK177.out 0).trans rfl; have hcz44_1 : w41.cell? ⟨gb177, 1, none⟩ = some (.slice none 0 0) := (blk_cell BK177.out 1).trans rfl; have hfz44_0 := blk_frozen BK177.out 0; have hfz44_1 := blk_frozen BK177.out 1))
                      have n0_ : Aside0 (((w41.setCell ⟨gb177, 0, none⟩ (.int .i64 ((rd_T39 l2_0 x27_2).f0))).setCell ⟨gb177, 1, none⟩ (.slice A176_1 ((rd_T39 l2_0 x27_2).f1).length c176_1)).heap[gb172]? = some (.cells #[.slice (some ad176) l2_0.length c2_0] 25 (0, 0))) := ⟨by (with_reducible repeat (first | refine blk_drewN ?_ _ | refine blk_drew ?_ | refine blk_alloc ?_ _)); refine blk_far ?_ NB172_177.out _; (with_reducible repeat (first | refine blk_drewN ?_ _ | refine blk_drew ?_ | refine blk_alloc ?_ _)); refine blk_far ?_ NB172_177.out _; (with_reducible repeat (first | refine blk_drewN ?_ _ | refine blk_drew ?_ | refine blk_alloc ?_ _)); exact BK172.out⟩
                      have n1_ : Aside0 (((w41.setCell ⟨gb177, 0, none⟩ (.int .i64 ((rd_T39 l2_0 x27_2).f0))).setCell ⟨gb177, 1, none⟩ (.slice A176_1 ((rd_T39 l2_0 x27_2).f1).length c176_1)).heap[gb173]? = some (.cells #[.int .i64 a0, .slice A1 l1.length c1] 54 (0, 0))) := ⟨by (with_reducible repeat (first | refine blk_drewN ?_ _ | refine blk_drew ?_ | refine blk_alloc ?_ _)); refine blk_far ?_ NB173_177.out _; (with_reducible repeat (first | refine blk_drewN ?_ _ | refine blk_drew ?_ | refine blk_alloc ?_ _)); refine blk_far ?_ NB173_177.out _; (with_reducible repeat (first | refine blk_drewN ?_ _ | refine blk_drew ?_ | refine blk_alloc ?_ _)); exact BK173.out⟩
                      have n2_ : Aside0 (((w41.setCell ⟨gb177, 0, none⟩ (.int .i64 ((rd_T39 l2_0 x27_2).f0))).setCell ⟨gb177, 1, none⟩ (.slice A176_1 ((rd_T39 l2_0 x27_2).f1).length c176_1)).heap[gb177]? = some (.cells #[.int .i64 ((rd_T39 l2_0 x27_2).f0), .slice A176_1 ((rd_T39 l2_0 x27_2).f1).length c176_1] 39 (0, 0))) := ⟨by (with_reducible repeat (first | refine blk_drewN ?_ _ | refine blk_drew ?_ | refine blk_alloc ?_ _)); refine blk_put (cs := #[.int .i64 ((rd_T39 l2_0 x27_2).f0), .slice none 0 0]) ?_ 1 _ rfl; (with_reducible repeat (first | refine blk_drewN ?_ _ | refine blk_drew ?_ | refine blk_alloc ?_ _)); refine blk_put (cs := #[.int .i64 0, .slice none 0 0]) ?_ 0 _ rfl; (with_reducible repeat (first | refine blk_drewN ?_ _ | refine blk_drew ?_ | refine blk_alloc ?_ _)); exact BK177.out⟩
                      have n3_ : Aside0 (Below w.heap.size w ((w41.setCell ⟨gb177, 0, none⟩ (.int .i64 ((rd_T39 l2_0 x27_2).f0))).setCell ⟨gb177, 1, none⟩ (.slice A176_1 ((rd_T39 l2_0 x27_2).f1).length c176_1))) := ⟨by repeat (first | (with_reducible first | exact HB.out | apply below_alloc | apply pw_below_drewN | apply below_drew1 | refine below_set ?_ GE172.out | refine below_set ?_ GE173.out | refine below_set ?_ GE177.out) | exact HB.out)⟩
                      (try clear BK172)
                      (try clear BK173)
                      (try clear BK177)
                      (try clear HB)
                      generalize ((w41.setCell ⟨gb177, 0, none⟩ (.int .i64 ((rd_T39 l2_0 x27_2).f0))).setCell ⟨gb177, 1, none⟩ (.slice A176_1 ((rd_T39 l2_0 x27_2).f1).length c176_1)) = w45 at n0_ n1_ n2_ n3_ ⊢
                      have BK172 := n0_
                      have BK173 := n1_
                      have BK177 := n2_
                      have HB := n3_
                      clear n0_ n1_ n2_ n3_
                      have n0_ := Aside0.mk (blk_drew BK172.out)
                      have n1_ := Aside0.mk (blk_drew BK173.out)
                      have n2_ := Aside0.mk (blk_drew BK177.out)
                      have n3_ := Aside0.mk (below_drew1 HB.out)
                      clear BK172
                      clear BK173
                      clear BK177
                      clear HB
                      have BK172 := n0_
                      have BK173 := n1_
                      have BK177 := n2_
                      have HB := n3_
                      clear n0_ n1_ n2_ n3_
                      have p178 : 0 ≤ (x27_2 : Int) := of_decide_eq_true (by first | (with_reducible assumption) | assumption)
                      have q178 : x27_2 < (l1.length : Int) := of_decide_eq_true (by first | (with_reducible assumption) | assumption)
                      obtain ⟨ad178, A178_0, c178_0, e178, hx178_0, hl178_0, hi178_0⟩ := at_L1 HR1.out x27_2 p178 q178
                      have hw178_0 := hx178_0
                      cases e178
                      replace hx178_0 := (HB.out.cell (World.block_lt_of_cell? w _ hx178_0)).trans hx178_0
                      have HR178_0 := Aside0.mk hi178_0
                      have HC178_0 := Aside0.mk hl178_0
                      clear hi178_0 hl178_0
                      replace p178 := eq_true p178
                      replace q178 := eq_true q178
                      refine start_ (n := 13) (S := fun w' => w'.cell? ⟨gb177, 0, none⟩ = some (.int .i64 ((rd_T39 l2_0 x27_2).f0)) ∧ w'.cell? ⟨gb177, 1, none⟩ = some (.slice A176_1 ((rd_T39 l2_0 x27_2).f1).length c176_1) ∧ w'.cell? ⟨gb173, 0, none⟩ = some (.int .i64 a0) ∧ w'.cell? ⟨gb173, 1, none⟩ = some (.slice (some ad178) l1.length c1) ∧ w'.cell? (ad178.add (x27_2).toNat) = some (.slice A178_0 (rd_L1 l1 x27_2).length c178_0)) (ds := []) #[false, false, false, false, false, false, false, false, false, false, false, false, false] (by kernel_rfl) rfl rfl ⟨(blk_cell BK177.out 0).trans rfl, (blk_cell BK177.out 1).trans rfl, (blk_cell BK173.out 0).trans rfl, (blk_cell BK173.out 1).trans rfl, ((HB.out.cell (World.block_lt_of_cell? w _ hw178_0)).trans hw178_0)⟩ (fun hHeld => ?_); refine with_tabW graph_Check.tab7 graph_Check.bits7 (fun HT_ HW_ => ?_)
                      generalize w45.drew = w46 at BK172 BK173 BK177 HB HR178_0 hx178_0 hHeld ⊢
                      refine pure_ (i := 0) (N := some 32) (v := ?_) (a' := ?_) #[true, false, false, false, false, false, false, false, false, false, false, false, false] rfl rfl (any_of HT_.out (by kernel_rfl)) (fun _ _ _ h => h) (Or.inl ⟨by rfl, ?_⟩) ?_ ?_
                      rotate_left
                      · intro w'
                        go_simp
                        with_reducible rfl
                      rotate_left
                      · simp only [Act.put, List.setIfInBounds_toArray, List.set_cons_zero, List.set_cons_succ, i64_w, i32_w]
                        rfl
                      refine pure_ (i := 3) (N := some 35) (v := ?_) (a' := ?_) #[true, false, false, true, false, false, false, false, false, false, false, false, false] rfl rfl (any_of HT_.out (by kernel_rfl)) (fun _ _ _ h => h) (Or.inl ⟨by rfl, ?_⟩) ?_ ?_
                      rotate_left
                      · intro w'
                        go_simp
                        with_reducible rfl
                      rotate_left
                      · simp only [Act.put, List.setIfInBounds_toArray, List.set_cons_zero, List.set_cons_succ, i64_w, i32_w]
                        rfl
                      refine pure_ (i := 4) (N := some 36) (v := ?_) (a' := ?_) #[true, false, false, true, true, false, false, false, false, false, false, false, false] rfl rfl (any_of HT_.out (by kernel_rfl)) (fun _ _ _ h => h) (Or.inl ⟨by rfl, ?_⟩) ?_ ?_
                      rotate_left
                      · intro w'
                        go_simp
                        with_reducible rfl
                      rotate_left
                      · simp only [Act.put, List.setIfInBounds_toArray, List.set_cons_zero, List.set_cons_succ, i64_w, i32_w]
                        rfl
                      refine pure_ (i := 5) (N := some 37) (v := ?_) (a' := ?_) #[true, false, false, true, true, true, false, false, false, false, false, false, false] rfl rfl (any_of HT_.out (by kernel_rfl)) (fun _ _ _ h => h) (Or.inl ⟨by rfl, ?_⟩) ?_ ?_
                      rotate_left
                      · intro w'
                        go_simp
                        with_reducible rfl
                      rotate_left
                      · simp only [Act.put, List.setIfInBounds_toArray, List.set_cons_zero, List.set_cons_succ, i64_w, i32_w]
                        rfl
                      refine pure_ (i := 8) (N := some 40) (v := ?_) (a' := ?_) #[true, false, false, true, true, true, false, false, true, false, false, false, false] rfl rfl (any_of HT_.out (by kernel_rfl)) (fun _ _ _ h => h) (Or.inl ⟨by rfl, ?_⟩) ?_ ?_
                      rotate_left
                      · intro w'
                        go_simp
                        with_reducible rfl
                      rotate_left
                      · simp only [Act.put, List.setIfInBounds_toArray, List.set_cons_zero, List.set_cons_succ, i64_w, i32_w]
                        rfl
                      refine take_ (i := 1) (N := some 33) (v := ?_) (a' := ?_) #[true, true, false, true, true, true, false, false, true, false, false, false, false] rfl rfl (take_ofW HT_.out HW_.out (by kernel_rfl)) (fun _ _ _ h => h) (Or.inl ⟨by rfl, ?_⟩) hHeld ?_ ?_
                      rotate_left
                      · rintro w' ⟨s0, s1, s2, s3, s4⟩
                        go_simp
                        with_reducible rfl
                      rotate_left
                      · simp only [Act.put, List.setIfInBounds_toArray, List.set_cons_zero, List.set_cons_succ, i64_w, i32_w]
                        rfl
                      refine take_ (i := 2) (N := some 34) (v := ?_) (a' := ?_) #[true, true, true, true, true, true, false, false, true, false, false, false, false] rfl rfl (take_ofW HT_.out HW_.out (by kernel_rfl)) (fun _ _ _ h => h) (Or.inl ⟨by rfl, ?_⟩) hHeld ?_ ?_
                      rotate_left
                      · rintro w' ⟨s0, s1, s2, s3, s4⟩
                        go_simp
                        with_reducible rfl
                      rotate_left
                      · simp only [Act.put, List.setIfInBounds_toArray, List.set_cons_zero, List.set_cons_succ, i64_w, i32_w]
                        rfl
                      refine take_ (i := 6) (N := some 38) (v := ?_) (a' := ?_) #[true, true, true, true, true, true, true, false, true, false, false, false, false] rfl rfl (take_ofW HT_.out HW_.out (by kernel_rfl)) (fun _ _ _ h => h) (Or.inl ⟨by rfl, ?_⟩) hHeld ?_ ?_
                      rotate_left
                      · rintro w' ⟨s0, s1, s2, s3, s4⟩
                        go_simp
                        with_reducible rfl
                      rotate_left
                      · simp only [Act.put, List.setIfInBounds_toArray, List.set_cons_zero, List.set_cons_succ, i64_w, i32_w]
                        rfl
                      refine take_ (i := 9) (N := some 41) (v := ?_) (a' := ?_) #[true, true, true, true, true, true, true, false, true, true, false, false, false] rfl rfl (take_ofW HT_.out HW_.out (by kernel_rfl)) (fun _ _ _ h => h) (Or.inl ⟨by rfl, ?_⟩) hHeld ?_ ?_
                      rotate_left
                      · rintro w' ⟨s0, s1, s2, s3, s4⟩
                        go_simp
                        with_reducible rfl
                      rotate_left
                      · simp only [Act.put, List.setIfInBounds_toArray, List.set_cons_zero, List.set_cons_succ, i64_w, i32_w]
                        rfl
                      refine one_ (i := 7) (N := some 39) #[true, true, true, true, true, true, true, true, true, true, false, false, false] rfl rfl (one_of HT_.out (by kernel_rfl)) (by decide) (fun K hK => ?_)
                      refine goes_ Try.func36 (by kernel_rfl) rfl #[.agg #[.int .i64 a0, .slice (some ad178) l1.length c1], .slice A178_0 (rd_L1 l1 x27_2).length c178_0] (by rfl) rfl rfl (by (try simp only [List.map_toArray, List.map_cons, List.map_nil]); first | done | rfl | (simp only [List.length_drop, List.length_take]; rfl)) ?_
                      with_reducible refine (graph_space_keys.calls k2 a0 _ _ l1 _ _ (rd_L1 l1 x27_2) t179 _ ?side1 ?side2 ?side3 ?side4 A27.out).mono ?_
                      (case side1 => repeat (first | exact (Kd.C_below HR1.out HB.out) | (with_reducible refine Kd.C_alloc ?_ _) | (with_reducible refine Kd.C_drewN ?_ _) | (with_reducible refine Kd.C_drew ?_)))
                      (case side2 => exact HC1.out)
                      (case side3 => repeat (first | exact (Kd.C_below HR178_0.out HB.out) | (with_reducible refine Kd.C_alloc ?_ _) | (with_reducible refine Kd.C_drewN ?_ _) | (with_reducible refine Kd.C_drew ?_)))
                      (case side4 => exact HC178_0.out)
                      rintro e w47 ⟨v180, rfl, ho0, hb⟩
                      refine ⟨_, rfl, ?_⟩
                      have n0_ := Aside0.mk (Kd.R_lower ho0 (below_size (by repeat (first | (with_reducible first | exact HB.out | apply below_alloc | apply pw_below_drewN | apply below_drew1 | refine below_set ?_ GE172.out | refine below_set ?_ GE173.out | refine below_set ?_ GE177.out) | exact HB.out))))
                      have n1_ := Aside0.mk (blk_below (g := gb172) (o := .cells #[.slice (some ad176) l2_0.length c2_0] 25 (0, 0)) (by (with_reducible repeat (first | refine blk_drewN ?_ _ | refine blk_drew ?_ | refine blk_alloc ?_ _)); exact BK172.out) hb)
                      have n2_ := Aside0.mk (blk_below (g := gb173) (o := .cells #[.int .i64 a0, .slice (some ad178) l1.length c1] 54 (0, 0)) (by (with_reducible repeat (first | refine blk_drewN ?_ _ | refine blk_drew ?_ | refine blk_alloc ?_ _)); exact BK173.out) hb)
                      have n3_ := Aside0.mk (blk_below (g := gb177) (o := .cells #[.int .i64 ((rd_T39 l2_0 x27_2).f0), .slice A176_1 ((rd_T39 l2_0 x27_2).f1).length c176_1] 39 (0, 0)) (by (with_reducible repeat (first | refine blk_drewN ?_ _ | refine blk_drew ?_ | refine blk_alloc ?_ _)); exact BK177.out) hb)
                      have n4_ := Aside0.mk (below_step (by repeat (first | (with_reducible first | exact HB.out | apply below_alloc | apply pw_below_drewN | apply below_drew1 | refine below_set ?_ GE172.out | refine below_set ?_ GE173.out | refine below_set ?_ GE177.out) | exact HB.out)) hb)
                      clear BK172
                      clear BK173
                      clear BK177
                      clear HB
                      have HO181 := n0_
                      have BK172 := n1_
                      have BK173 := n2_
                      have BK177 := n3_
                      have HB := n4_
                      clear n0_ n1_ n2_ n3_ n4_
                      (try clear hb)
                      (try clear hb2)
                      (try clear hk)
                      (try clear hi)
                      (try clear ho0)
                      obtain ⟨Ao48, co48, eo48⟩ := Kd.R_slice HO181.out
                      (first | subst eo48 | (injection eo48 with f1_ f2_ f3_; have f4_ := f1_.symm; have f5_ := f3_.symm; clear f1_ f2_ f3_; subst f4_; subst f5_))
                      refine hK.out _ _ ⟨(blk_cell BK177.out 0).trans rfl, (blk_cell BK177.out 1).trans rfl, (blk_cell BK173.out 0).trans rfl, (blk_cell BK173.out 1).trans rfl, ((HB.out.cell (World.block_lt_of_cell? w _ hw178_0)).trans hw178_0)⟩ (fun hHeld => ?_)
                      clear hK K
                      refine norm_ (a' := ?_) ?_ ?_
                      rotate_left
                      · show Act.put _ (some 39) _ = _
                        simp only [Act.put, List.setIfInBounds_toArray, List.set_cons_zero, List.set_cons_succ, i64_w, i32_w]
                        rfl
                      refine one_ (i := 10) (N := some 42) #[true, true, true, true, true, true, true, true, true, true, true, false, false] rfl rfl (one_of HT_.out (by kernel_rfl)) (by decide) (fun K hK => ?_)
                      refine goes_ Try.func39 (by kernel_rfl) rfl #[.slice Ao48 t179.length co48, .int .i64 ((rd_T39 l2_0 x27_2).f0)] (by rfl) rfl rfl (by (try simp only [List.map_toArray, List.map_cons, List.map_nil]); first | done | rfl | (simp only [List.length_drop, List.length_take]; rfl)) ?_
                      with_reducible refine (graph_around.calls k2 _ _ t179 ((rd_T39 l2_0 x27_2).f0) t182 _ ?side1 ?side2 A28.out).mono ?_
                      (case side1 => repeat (first | exact (Kd.R_reads' HO181.out).2.2 | (with_reducible refine Kd.C_alloc ?_ _) | (with_reducible refine Kd.C_drewN ?_ _) | (with_reducible refine Kd.C_drew ?_)))
                      (case side2 => exact (Kd.R_reads' HO181.out).2.1)
                      rintro e w49 ⟨v183, rfl, ho0, hb⟩
                      refine ⟨_, rfl, ?_⟩
                      have n0_ := Aside0.mk (Kd.R_elder' (by (with_reducible repeat (first | apply Kd.R_alloc | apply Kd.R_drewN | apply Kd.R_drew)); exact HO181.out) (Kd.R_base ho0) hb)
                      have n1_ := Aside0.mk (Kd.R_lower (Kd.R_new' ho0 (Kd.R_lt (by (with_reducible repeat (first | apply Kd.R_alloc | apply Kd.R_drewN | apply Kd.R_drew)); exact HO181.out))) (below_size (by repeat (first | (with_reducible first | exact HB.out | apply below_alloc | apply pw_below_drewN | apply below_drew1 | refine below_set ?_ GE172.out | refine below_set ?_ GE173.out | refine below_set ?_ GE177.out) | exact HB.out))))
                      have n2_ := Aside0.mk (blk_below (g := gb172) (o := .cells #[.slice (some ad176) l2_0.length c2_0] 25 (0, 0)) (by (with_reducible repeat (first | refine blk_drewN ?_ _ | refine blk_drew ?_ | refine blk_alloc ?_ _)); exact BK172.out) hb)
                      have n3_ := Aside0.mk (blk_below (g := gb173) (o := .cells #[.int .i64 a0, .slice (some ad178) l1.length c1] 54 (0, 0)) (by (with_reducible repeat (first | refine blk_drewN ?_ _ | refine blk_drew ?_ | refine blk_alloc ?_ _)); exact BK173.out) hb)
                      have n4_ := Aside0.mk (blk_below (g := gb177) (o := .cells #[.int .i64 ((rd_T39 l2_0 x27_2).f0), .slice A176_1 ((rd_T39 l2_0 x27_2).f1).length c176_1] 39 (0, 0)) (by (with_reducible repeat (first | refine blk_drewN ?_ _ | refine blk_drew ?_ | refine blk_alloc ?_ _)); exact BK177.out) hb)
                      have n5_ := Aside0.mk (below_step (by repeat (first | (with_reducible first | exact HB.out | apply below_alloc | apply pw_below_drewN | apply below_drew1 | refine below_set ?_ GE172.out | refine below_set ?_ GE173.out | refine below_set ?_ GE177.out) | exact HB.out)) hb)
                      clear HO181
                      clear BK172
                      clear BK173
                      clear BK177
                      clear HB
                      have HO181 := n0_
                      have HO184 := n1_
                      have BK172 := n2_
                      have BK173 := n3_
                      have BK177 := n4_
                      have HB := n5_
                      clear n0_ n1_ n2_ n3_ n4_ n5_
                      (try clear hb)
                      (try clear hb2)
                      (try clear hk)
                      (try clear hi)
                      (try clear ho0)
                      obtain ⟨Ao50, co50, eo50⟩ := Kd.R_slice HO184.out
                      (first | subst eo50 | (injection eo50 with f1_ f2_ f3_; have f4_ := f1_.symm; have f5_ := f3_.symm; clear f1_ f2_ f3_; subst f4_; subst f5_))
                      refine hK.out _ _ ⟨(blk_cell BK177.out 0).trans rfl, (blk_cell BK177.out 1).trans rfl, (blk_cell BK173.out 0).trans rfl, (blk_cell BK173.out 1).trans rfl, ((HB.out.cell (World.block_lt_of_cell? w _ hw178_0)).trans hw178_0)⟩ (fun hHeld => ?_)
                      clear hK K
                      refine norm_ (a' := ?_) ?_ ?_
                      rotate_left
                      · show Act.put _ (some 42) _ = _
                        simp only [Act.put, List.setIfInBounds_toArray, List.set_cons_zero, List.set_cons_succ, i64_w, i32_w]
                        rfl
                      refine one_ (i := 11) (N := some 43) #[true, true, true, true, true, true, true, true, true, true, true, true, false] rfl rfl (one_of HT_.out (by kernel_rfl)) (by decide) (fun K hK => ?_)
                      refine goes_ Try.func40 (by kernel_rfl) rfl #[.slice A176_1 ((rd_T39 l2_0 x27_2).f1).length c176_1, .slice Ao50 t182.length co50] (by rfl) rfl rfl (by (try simp only [List.map_toArray, List.map_cons, List.map_nil]); first | done | rfl | (simp only [List.length_drop, List.length_take]; rfl)) ?_
                      with_reducible refine (slices_Equal_int_int.calls k2 _ _ ((rd_T39 l2_0 x27_2).f1) _ _ t182 false _ ?side1 ?side2 ?side3 ?side4 A29.out).mono ?_
                      (case side1 => repeat (first | exact (Kd.C_below HR176_1.out HB.out) | (with_reducible refine Kd.C_alloc ?_ _) | (with_reducible refine Kd.C_drewN ?_ _) | (with_reducible refine Kd.C_drew ?_)))
                      (case side2 => exact HC176_1.out)
                      (case side3 => repeat (first | exact (Kd.R_reads' HO184.out).2.2 | (with_reducible refine Kd.C_alloc ?_ _) | (with_reducible refine Kd.C_drewN ?_ _) | (with_reducible refine Kd.C_drew ?_)))
                      (case side4 => exact (Kd.R_reads' HO184.out).2.1)
                      rintro e w' ⟨rfl, ⟨nd, rfl⟩⟩
                      refine ⟨_, rfl, ?_⟩
                      refine hK.out _ _ ⟨(blk_cell BK177.out 0).trans rfl, (blk_cell BK177.out 1).trans rfl, (blk_cell BK173.out 0).trans rfl, (blk_cell BK173.out 1).trans rfl, ((HB.out.cell (World.block_lt_of_cell? w _ hw178_0)).trans hw178_0)⟩ (fun hHeld => ?_)
                      clear hK K
                      refine norm_ (a' := ?_) ?_ ?_
                      rotate_left
                      · show Act.put _ (some 43) _ = _
                        simp only [Act.put, List.setIfInBounds_toArray, List.set_cons_zero, List.set_cons_succ, i64_w, i32_w]
                        rfl
                      refine pure_ (i := 12) (N := some 44) (v := ?_) (a' := ?_) #[true, true, true, true, true, true, true, true, true, true, true, true, true] rfl rfl (any_of HT_.out (by kernel_rfl)) (fun _ _ _ h => h) (Or.inl ⟨by rfl, ?_⟩) ?_ ?_
                      rotate_left
                      · intro w'
                        go_simp
                        with_reducible rfl
                      rotate_left
                      · simp only [Act.put, List.setIfInBounds_toArray, List.set_cons_zero, List.set_cons_succ, i64_w, i32_w]
                        rfl
                      refine done_ (done_of HT_.out (by kernel_rfl)) ?_
                      try go_wp2
                      go_ret2
                      exact ⟨by first | rfl | (simp [errW_none, errW_some] <;> rfl) | (simp [*, errW_none, errW_some] <;> rfl), by repeat (first | (with_reducible first | exact HB.out | apply below_alloc | apply pw_below_drewN | apply below_drew1 | refine below_set ?_ GE172.out | refine below_set ?_ GE173.out | refine below_set ?_ GE177.out) | exact HB.out)⟩
                  · rw [if_neg c26] at H
                    exact absurd H (by simp)
                · rw [if_neg c25] at H
                  exact absurd H (by simp)
              · rw [if_neg c24] at H
                exact absurd H (by simp)
            · rw [if_neg c23] at H
              have c23b0 : decide (x27_2 < (l2_0.length : Int)) = false := decide_eq_false c23
              clear c23
              simp only [Option.some.injEq, Prod.mk.injEq] at H
              obtain ⟨rfl, rfl⟩ := H
              go_wp2
              go_ret2
              exact ⟨by first | rfl | (simp [errW_none, errW_some] <;> rfl) | (simp [*, errW_none, errW_some] <;> rfl), by repeat (first | (with_reducible first | exact HB.out | apply below_alloc | apply pw_below_drewN | apply below_drew1 | refine below_set ?_ GE172.out | refine below_set ?_ GE173.out) | exact HB.out)⟩

end Go.Proofs.Ythbkomkgciemiaa.PKM
/- The program's Check and the reference's agree. -/
namespace Go.Proofs.Ythbkomkgciemiaa.PKM
open Go.Proofs.Ythbkomkgciemiaa.RF
open Go.RowKit Go.Proofs.YthbkomkgciemiaaW.PrintWords Go.Proofs.YthbkomkgciemiaaW.PrintLast Go.Proofs.YthbkomkgciemiaaW.PrintMore
attribute [local go_sem] max2_int min2_int max_two min_two max_three min_three max_four min_four
set_option linter.unusedVariables false
set_option linter.unusedSimpArgs false
theorem right27_ex (m : Int) (l : List (List Int)) (hl : fewL l) (g : List Hd) (hs : ∀ h ∈ g, h.f1.length ≤ 4096) : ∃ k r, antiquaryref27_Right.f k m l g = some r ∧ (r = true ↔ rightF m l = true ∧ ValidG l.length g) := by
  obtain ⟨k1, r1, h1, h2⟩ := fit_ex l hl
  obtain ⟨k2, r2, h3, h4⟩ := valid27_ex l.length g hs
  rw [right_iff_fit]
  by_cases c : 1 ≤ m ∧ m ≤ 3
  · cases hr1 : r1 with
    | true =>
      refine ⟨k1 + k2, r2, ?_, ?_⟩
      · unfold antiquaryref27_Right.f
        rw [metric09, Option.bind_some, decide_eq_true c, if_pos rfl, up_le (antiquaryref09_Fit.mono _) h1 (show k1 ≤ k1 + k2 by omega), Option.bind_some, hr1, if_pos rfl, up_le (antiquaryref27_Valid.mono _ _) h3 (show k2 ≤ k1 + k2 by omega)]; rfl
      · rw [h4]; exact ⟨fun h => ⟨⟨c, h2.1 hr1⟩, h⟩, fun h => h.2⟩
    | false =>
      refine ⟨k1, false, ?_, ⟨fun h => (by cases h), fun h => by have := h2.2 h.1.2; rw [hr1] at this; cases this⟩⟩
      unfold antiquaryref27_Right.f
      rw [metric09, Option.bind_some, decide_eq_true c, if_pos rfl, h1, Option.bind_some, hr1, if_neg (by simp)]
  · refine ⟨0, false, ?_, ⟨fun h => (by cases h), fun h => absurd h.1.1 c⟩⟩
    unfold antiquaryref27_Right.f
    rw [metric09, Option.bind_some, decide_eq_false c, if_neg (by simp)]
end Go.Proofs.Ythbkomkgciemiaa.PKM
/- A region that draws its order and only reads, INSIDE A ROUND of a range over a function (and outside of one): one walk in the text's order. -/
namespace Go.Proofs.Ythbkomkgciemiaa.RF
open Go Go.Sort Go.RowKit
variable {P : Program} {F : Fence} {n : Nat} {md : Region.Mode} {ops : Array Oper} {C : World → Prop}
def noDefer (l : List Oper) : Bool := l.all fun o => match o.op with
  | .defer _ => false
  | _ => true
theorem noDefer_at {i : Nat} {o : Oper} (h : noDefer ops.toList = true) (ho : ops[i]? = some o) : ∀ c, o.op ≠ .defer c := by
  intro c hc
  have hm : o ∈ ops.toList := by
    have := Array.getElem?_toList (xs := ops) (i := i)
    rw [ho] at this
    exact List.mem_of_getElem? this
  have := List.all_eq_true.1 h o hm
  rw [hc] at this
  cases this
theorem step_of_quiet {o : Oper} {a : Act} {K : Act → Prop} {K' : Act → World → Prop} {Q' : Exit → Act → World → Prop} {w : World} (hd : ∀ c, o.op ≠ .defer c) (hw : C w) (h : ∀ a w', C w' → K a → K' a w')
    (ha : o.askedIn F P a C) (hh : o.quietIn F n P a C K) : o.wpIn F n P a w K' Q' := by
  obtain ⟨v, h1, h2⟩ := hh
  have h3 := h1 w hw
  unfold Oper.quietAtIn at h3
  unfold Oper.wpIn
  refine ⟨ha w hw, ?_⟩
  rw [Oper.semAt_eq F.round a.eval o hd]
  revert h3
  generalize (execOp a.eval o).run P w = r
  intro h3
  cases r with
  | halt x w' => exact h3.elim
  | ok x w' =>
    cases x with
    | value u =>
      obtain ⟨rfl, rfl⟩ := h3
      exact h _ _ hw h2
    | skip =>
      obtain ⟨rfl, rfl⟩ := h3
      exact h _ _ hw h2
    | enter f args =>
      obtain ⟨rfl, hd, hc⟩ := h3
      exact ⟨hd, hc.mono fun e w'' ⟨he, hw''⟩ => by subst he; exact h _ _ hw'' h2⟩
    | _ => exact h3.elim
theorem op_of_quiet {i : Nat} {a : Act} {K : Act → Prop} {K' : Act → World → Prop} {Q' : Exit → Act → World → Prop} {w : World} (hd : noDefer ops.toList = true) (hw : C w) (h : ∀ a w', C w' → K a → K' a w')
    (hh : qOpIn F n P ops C i K a) : wpOpIn F n P ops Q' i K' a w := by
  unfold qOpIn at hh
  unfold wpOpIn
  cases ho : ops[i]? with
  | none => simp only [ho] at hh; exact h _ _ hw hh
  | some o =>
    simp only [ho] at hh
    obtain ⟨ha, hh⟩ := hh
    dsimp only
    cases hg : Region.wanted o (yielded ops a.tmps) with
    | true => simp only [hg, if_true] at hh ⊢; exact step_of_quiet (noDefer_at hd ho) hw h ha hh
    | false => simp only [hg] at hh ⊢; exact ⟨ha w hw, h _ _ hw hh⟩
theorem any_of_quiet {Q : Act → Prop} {Q' : Exit → Act → World → Prop} (hd : noDefer ops.toList = true) (hQ : ∀ a w, C w → Q a → Q' .normal a w) : ∀ (fuel : Nat) (listed : Array Bool) (a : Act) (w : World), C w →
    wpAnyQIn F n P md ops C Q fuel listed a → wpAnyIn F n P md ops Q' fuel listed a w
  | 0, _, _, _, hw, h => ⟨h.1, hQ _ _ hw h.2⟩
  | fuel + 1, _, _, _, hw, h => ⟨fun h0 => hQ _ _ hw (h.1 h0), fun i hi => op_of_quiet hd hw (fun a' w' hw' => any_of_quiet hd hQ fuel _ a' w' hw') (h.2 i hi)⟩
theorem region_quiet {id : Nat} {Q : Exit → Act → World → Prop} {a : Act} {w : World} {l : List Oper} (hm : P.follows .mixedOrders = true) (hB : Region.lexB .any l.toArray = true) (hd : noDefer l = true) (hC : C w.drew)
    (h : wpQuietIn F n P l.toArray C (fun a' => ∀ w', C w' → Q .normal a' w') l a) : (Code.region id l.toArray true).wpIn F n P Q a w := by
  simp only [Region.lexB, Bool.and_eq_true] at hB
  refine wpIn_region_any hm (any_of_quiet (Q := fun a' => ∀ w', C w' → Q .normal a' w') (by simpa using hd) (fun _ w' hw' h => h w' hw') _ _ _ _ hC ?_)
  have := wpAnyQIn_lex (F := F) (n := n) (C := C) (md := .any) hB.1 l 0 (Array.replicate l.toArray.size false) a (by simp) (by simpa using hB.2) h
  simpa using this
theorem region_quiet_below {id : Nat} {Q : Exit → Act → World → Prop} {a : Act} {w : World} {l : List Oper} (hm : P.follows .mixedOrders = true) (hB : Region.lexB .any l.toArray = true) (hd : noDefer l = true)
    (h : wpQuietIn F n P l.toArray (fun w' => ∃ p : Regrown, w' = grow (redrawn w p.d) p.os) (fun a' => ∀ w', (∃ p : Regrown, w' = grow (redrawn w p.d) p.os) → Q .normal a' w') l a) : (Code.region id l.toArray true).wpIn F n P Q a w :=
  region_quiet (C := fun w' => ∃ p : Regrown, w' = grow (redrawn w p.d) p.os) hm hB hd ⟨⟨w.drawn + 1, #[]⟩, by rw [grow_empty]; rfl⟩ h
end Go.Proofs.Ythbkomkgciemiaa.RF
/- slices.IndexFunc and slices.DeleteFunc over an own row of numbers, for a predicate that reads what lies below the row. -/
namespace Go.Proofs.Ythbkomkgciemiaa.PKM
open Go.Proofs.Ythbkomkgciemiaa.RF
open Go.RowKit Go.Proofs.YthbkomkgciemiaaW.PrintWords Go.Proofs.YthbkomkgciemiaaW.PrintLast Go.Proofs.YthbkomkgciemiaaW.PrintMore
attribute [local go_sem] max2_int min2_int max_two min_two max_three min_three max_four min_four
set_option linter.unusedVariables false
set_option linter.unusedSimpArgs false
/-- A closure that is asked of numbers. -/
def PredC (gf : Nat) (lb : Array Value) (p : Int → Bool) (base : Nat) (xs : List Int) (w : World) : Prop :=
  ∀ W, Below base w W → ∀ x ∈ xs, Calls Try.prog gf (#[.int .i64 x] ++ lb) W fun e w' => e = .returned (.bool (p x)) ∧ Drawn0 W w'
theorem PredC.move {gf : Nat} {lb : Array Value} {p : Int → Bool} {base : Nat} {xs : List Int} {w W : World} (h : PredC gf lb p base xs w) (hb : Below base w W) : PredC gf lb p base xs W := fun W' hW => h W' (hb.trans hW)
theorem rd_mem' (xs : List Int) (k : Nat) (h : k < xs.length) : rd xs k ∈ xs := by
  have : rd xs k = xs[k] := by simp [rd, h]
  rw [this]; exact List.getElem_mem h
theorem drawnT {a b c : World} (h : Drawn0 a b) (k : Drawn0 b c) : Drawn0 a c := by
  obtain ⟨n, rfl⟩ := k
  exact h.step n
set_option maxHeartbeats 400000 in
set_option maxRecDepth 100000 in
theorem indexC (gf : Nat) (lb : Array Value) (b1 b2 : Value) (hlb : lb = #[b1, b2]) (eg : ∀ args w, (callFunc gf args).run Try.prog w = .ok (.enter gf args) w) (p : Int → Bool) (base : Nat) (A : Option Addr) (c : Nat) (xs : List Int) (w : World) (hx : Kd.C (Kd.int .i64) w A xs.length xs) (hP : PredC gf lb p base xs w) (hbs : base ≤ w.heap.size) :
    Calls Try.prog 48 #[.slice A xs.length c, .func (.func gf) #[] lb] w fun e w' => (∃ i : Int, e = .returned (.int .i64 i) ∧ ((i = -1 ∧ ∀ x ∈ xs, p x = false) ∨ ∃ k : Nat, i = k ∧ k < xs.length ∧ (∀ j, j < k → p (rd xs j) = false) ∧ p (rd xs k) = true)) ∧ Drawn0 w w' := by
  subst hlb
  have hm := Kd.C_max hx
  have HX := Aside0.mk hx
  have HP := Aside0.mk hP
  clear hx hP
  go_enter Try.func48, Try.ntmps48
  go_wp2
  go_loopw [5, 8] (fun _ i wr => ∃ k : Nat, k ≤ xs.length ∧ i = .int .i64 k ∧ Aside0 (∀ j : Nat, j < k → p (rd xs j) = false) ∧ Aside0 (Drawn0 w wr)) (fun _ i _ => xs.length - (intOf i).toNat)
  case atStart => exact ⟨0, Nat.zero_le _, rfl, ⟨fun j hj => by omega⟩, ⟨Drawn0.refl _⟩⟩
  case round =>
    obtain ⟨k, hk, rfl, HF, HD⟩ := hrel
    by_cases hlt : k < xs.length
    · obtain ⟨ad, rfl, hc⟩ := Kd.at_int (Kd.C_below HX.out HD.out.below) k (by omega) (by omega)
      simp only [Int.toNat_natCast] at hc
      have HC := Aside0.mk (HP.out wr (HD.out.below.mono hbs) (rd xs k) (rd_mem' xs k hlt))
      simp only [List.push_toArray, List.append_toArray, List.cons_append, List.nil_append] at HC
      generalize hy : rd xs k = y at hc HC
      have HY := Aside0.mk hy
      clear hy
      go_wp2_with fail
      refine HC.out.mono ?_
      rintro e w1 ⟨rfl, hd⟩
      have HD1 := Aside0.mk (drawnT HD.out hd)
      clear hd HC
      cases hp : p y with
      | true =>
        have HPY := Aside0.mk hp
        go_wp2
        go_ret
        refine ⟨⟨k, rfl, .inr ⟨k, rfl, hlt, HF.out, by rw [HY.out]; exact HPY.out⟩⟩, HD1.out⟩
      | false =>
        have HPY := Aside0.mk hp
        go_wp2
        go_roundw
        case rel =>
          refine ⟨k + 1, by omega, by go_num, ⟨fun j hj => ?_⟩, HD1⟩
          rcases Nat.lt_succ_iff_lt_or_eq.1 hj with h | rfl
          · exact HF.out j h
          · rw [HY.out]; exact HPY.out
        case measure => simp [intOf]; omega
    · go_wp2
      go_ret
      refine ⟨⟨-1, rfl, .inl ⟨rfl, fun x hx => ?_⟩⟩, HD.out⟩
      obtain ⟨j, hj, rfl⟩ := List.mem_iff_getElem.1 hx
      have := HF.out j (by omega)
      simpa [rd, hj] using this

def Kept (p : Int → Bool) (xs : List Int) (j i : Nat) (ys : List Int) : Prop := ys.length = xs.length ∧ i < j ∧ j ≤ xs.length ∧ ys.take i = (xs.take j).filter (fun x => !p x) ∧ ys.drop j = xs.drop j
theorem kept_rd {p : Int → Bool} {xs : List Int} {j i : Nat} {ys : List Int} (h : Kept p xs j i ys) (hj : j < xs.length) : rd ys j = rd xs j := by
  have h2 := congrArg (fun l => l[0]?) h.2.2.2.2
  simp only [List.getElem?_drop, Nat.add_zero] at h2
  have hl := h.1
  unfold rd
  simp only [Int.toNat_natCast, List.getD_eq_getElem?_getD, h2]
theorem kept_skip {p : Int → Bool} {xs : List Int} {j i : Nat} {ys : List Int} (h : Kept p xs j i ys) (hj : j < xs.length) (hp : p (rd xs j) = true) : Kept p xs (j + 1) i ys := by
  obtain ⟨h1, h2, h3, h4, h5⟩ := h
  refine ⟨h1, by omega, by omega, ?_, ?_⟩
  · rw [h4, take_succ_rd xs j hj, List.filter_append]; simp [hp]
  · have := congrArg (List.drop 1) h5
    simpa [List.drop_drop, Nat.add_comm] using this
theorem kept_keep {p : Int → Bool} {xs : List Int} {j i : Nat} {ys : List Int} (h : Kept p xs j i ys) (hj : j < xs.length) (hp : p (rd xs j) = false) : Kept p xs (j + 1) (i + 1) (ys.set i (rd xs j)) := by
  obtain ⟨h1, h2, h3, h4, h5⟩ := h
  refine ⟨by simpa using h1, by omega, by omega, ?_, ?_⟩
  · rw [take_succ_rd xs j hj, List.filter_append, ← h4]
    have hi : i < ys.length := by omega
    rw [List.take_succ_eq_append_getElem (by simpa using hi)]
    simp [hp, List.take_set_of_le]
  · rw [List.drop_set_of_lt (by omega)]
    have := congrArg (List.drop 1) h5
    simpa [List.drop_drop, Nat.add_comm] using this
theorem kept_start {p : Int → Bool} {xs : List Int} {k : Nat} (hk : k < xs.length) (hf : ∀ j : Nat, j < k → p (rd xs j) = false) (ht : p (rd xs k) = true) : Kept p xs (k + 1) k xs := by
  refine ⟨rfl, by omega, by omega, ?_, rfl⟩
  rw [take_succ_rd xs k hk, List.filter_append]
  simp only [ht, List.filter_cons, List.filter_nil]
  rw [List.filter_eq_self.2 (fun x hx => ?_)]
  · simp
  · obtain ⟨j, hj, rfl⟩ := List.mem_iff_getElem.1 hx
    have hj' : j < k := by simp at hj; omega
    have := hf j hj'
    have hjx : j < xs.length := by omega
    simpa [rd, hjx] using this
theorem own_setCells {base g n cap : Nat} {e : TypeId} (zs : List Int) : ∀ (o : Nat) (W : World) (xs : List Int), W.ownsRow base e 1 (.slice (some ⟨g, 0, none⟩) n cap) n (nums .i64 xs) →
    ∃ ys, ys.length = xs.length ∧ ys.take o = xs.take o ∧ (W.setCells g o (zs.map (Value.int .i64))).ownsRow base e 1 (.slice (some ⟨g, 0, none⟩) n cap) n (nums .i64 ys) ∧ Below base W (W.setCells g o (zs.map (Value.int .i64))) := by
  induction zs with
  | nil => intro o W xs h; exact ⟨xs, rfl, rfl, h, Below.refl _ _⟩
  | cons z r ih =>
    intro o W xs h
    have hbg := own_base h g rfl
    have h2 := (own_store h (o : Int) z).1
    simp only [Int.toNat_natCast] at h2
    obtain ⟨ys, h3, h4, h5, h6⟩ := ih (o + 1) _ _ h2
    refine ⟨ys, by simpa using h3, ?_, h5, ((Below.refl base W).setCell (p := ⟨g, o, none⟩) hbg _).trans h6⟩
    have := congrArg (List.take o) h4
    rw [List.take_take, List.take_take, Nat.min_eq_left (by omega)] at this
    rw [this, List.take_set_of_le (by omega)]
set_option maxHeartbeats 1000000 in
set_option maxRecDepth 100000 in
theorem deleteC (gf : Nat) (lb : Array Value) (b1 b2 : Value) (hlb : lb = #[b1, b2]) (eg : ∀ args w, (callFunc gf args).run Try.prog w = .ok (.enter gf args) w) (p : Int → Bool) (base g cap : Nat) (xs : List Int) (w : World) (ho : w.ownsRow base 3 1 (.slice (some ⟨g, 0, none⟩) xs.length cap) xs.length (nums .i64 xs)) (hP : PredC gf lb p base xs w) :
    Calls Try.prog 29 #[.slice (some ⟨g, 0, none⟩) xs.length cap, .func (.func gf) #[] lb] w fun e w' => ∃ v, e = .returned v ∧ w'.ownsRow base 3 1 v (xs.filter fun x => !p x).length (nums .i64 (xs.filter fun x => !p x)) ∧ Below base w w' := by
  subst hlb
  have hbg := own_base ho g rfl
  have hlg := own_lt ho g rfl
  have hR : Kd.R (Kd.int .i64) 3 w base (fun _ => True) (.slice (some ⟨g, 0, none⟩) xs.length cap) xs := Kd.R_of_own (enc := Value.int .i64) ho (fun _ _ => trivial)
  have hcap := (Kd.R_reads' hR).2.1
  have hC := (Kd.R_reads' hR).2.2
  have hm := Kd.C_max hC
  have HI := Aside0.mk (indexC gf _ b1 b2 rfl eg p base _ cap xs w hC hP (by omega))
  have HO := Aside0.mk ho
  have HP := Aside0.mk hP
  clear ho hP hR hC
  go_enter Try.func29, Try.ntmps29
  go_wp2_with fail
  refine HI.out.mono ?_
  rintro e w1 ⟨⟨i, rfl, hi⟩, hd⟩
  have HO1 := Aside0.mk (pw_own_below HO.out hd.below)
  have HB1 := Aside0.mk (hd.below.mono (show base ≤ w.heap.size by omega))
  clear hd HI
  rcases hi with ⟨rfl, hall⟩ | ⟨k, rfl, hk, hf, ht⟩
  · have HA := Aside0.mk hall
    clear hall
    go_wp2
    go_ret
    refine ⟨_, rfl, ?_, HB1.out⟩
    rw [List.filter_eq_self.2 (fun x hx => by rw [HA.out x hx]; rfl)]
    exact HO1.out
  · have HK := Aside0.mk (kept_start hk hf ht)
    clear hf ht
    go_wp2
    go_loopw [5, 6, 7] (fun i j _ wr => ∃ (i' j' : Nat) (ys : List Int), i = .int .i64 i' ∧ j = .int .i64 j' ∧ j' ≤ xs.length ∧ i' < j' ∧ ys.length ≤ xs.length ∧ xs.length ≤ ys.length ∧ Aside0 (Kept p xs j' i' ys) ∧ Aside0 (wr.ownsRow base 3 1 (.slice (some ⟨g, 0, none⟩) xs.length cap) xs.length (nums .i64 ys)) ∧ Aside0 (Below base w wr)) (fun _ j _ _ => xs.length - (intOf j).toNat)
    case atStart => exact ⟨k, k + 1, xs, rfl, by go_num, hk, by omega, Nat.le_refl _, Nat.le_refl _, HK, HO1, HB1⟩
    case round =>
      obtain ⟨i', j', ys, rfl, rfl, hj, hij, hy1, hy2, HKP, HOW, HBW⟩ := hrel
      clear HO1 HB1 HK hk HO
      by_cases hlt : j' < xs.length
      · obtain ⟨c1, f1⟩ := own_at HOW.out j' (by omega) (by omega)
        obtain ⟨c2, f2⟩ := own_at HOW.out i' (by omega) (by omega)
        simp only [Int.toNat_natCast] at c1 c2 f1 f2
        rw [kept_rd HKP.out hlt] at c1
        have HC := Aside0.mk (HP.out wr HBW.out (rd xs j') (rd_mem' xs j' hlt))
        simp only [List.push_toArray, List.append_toArray, List.cons_append, List.nil_append] at HC
        generalize hy : rd xs j' = y at c1 HC
        generalize rd ys i' = old at c2
        have HY := Aside0.mk hy
        clear hy f1
        go_wp2_with fail
        refine HC.out.mono ?_
        rintro e w2 ⟨rfl, hd⟩
        have c3 := (hd.below.cell (World.block_lt_of_cell? _ _ c2)).trans c2
        have f3 := (hd.below.frozen (World.block_lt_of_cell? _ _ c2)).trans f2
        have HOW2 := Aside0.mk (pw_own_below HOW.out hd.below)
        have HBW2 := Aside0.mk (HBW.out.trans (hd.below.mono (Nat.le_trans (Nat.le_of_lt (Nat.lt_of_le_of_lt hbg hlg)) HBW.out.size)))
        clear hd HC c1 c2 f2
        cases hp : p y with
        | true =>
          have HK2 := Aside0.mk (kept_skip HKP.out hlt (by rw [HY.out]; exact hp))
          clear hp c3 f3
          go_wp2
          go_roundw
          case rel => (repeat apply Exists.intro); exact ⟨⟨i', j' + 1, ys, rfl, by go_num, by omega, by omega, hy1, hy2, HK2, HOW2, HBW2⟩, rfl⟩
          case measure => simp [intOf]; omega
        | false =>
          have HK2 := Aside0.mk (kept_keep HKP.out hlt (by rw [HY.out]; exact hp))
          rw [HY.out] at HK2
          have HOW3 := Aside0.mk (own_store HOW2.out i' y).1
          simp only [Int.toNat_natCast] at HOW3
          have HBW3 := Aside0.mk (HBW2.out.setCell (p := ⟨g, i', none⟩) hbg (.int .i64 y))
          clear hp
          go_wp2
          go_roundw
          case rel => (repeat apply Exists.intro); exact ⟨⟨i' + 1, j' + 1, ys.set i' y, by go_num, by go_num, by omega, by omega, by simpa using hy1, by simpa using hy2, HK2, HOW3, HBW3⟩, rfl⟩
          case measure => simp [intOf]; omega
      · have hje : j' = xs.length := by omega
        have hcl : ∀ ty, (Builtin.clear_ #[26] ty #[.slice (some ⟨g, i', none⟩) (xs.length - i') (cap - i')]).run Try.prog wr = .ok (.tuple #[]) (wr.setCells g i' (List.replicate (xs.length - i') (.int .i64 0))) :=
          fun ty => Lib.run_clear_slice wr _ 3 ty _ Try.underlying26 (fun w => by kernel_rfl) rfl rfl g i' _ _ (by omega) (fun q hq => by have := (own_at HOW.out (i' + q : Nat) (by omega) (by omega)).1; simp only [Int.toNat_natCast] at this; rw [this]; rfl) (fun q hq => by have := (own_at HOW.out (i' + q : Nat) (by omega) (by omega)).2; rw [Int.toNat_natCast] at this; exact this)
        have hi1 : i' < xs.length := by omega
        have HKP2 := HKP.out
        rw [hje] at HKP2
        have HK3 := Aside0.mk HKP2
        have hlti : ¬ xs.length < i' := by omega
        clear HKP2 hje
        go_wp2
        go_ret
        obtain ⟨zs, z1, z2, z3, z4⟩ := own_setCells (List.replicate (xs.length - i') (0 : Int)) i' wr ys HOW.out
        rw [List.map_replicate] at z3 z4
        obtain ⟨_, _, _, e4, _⟩ := HK3.out
        rw [List.take_length] at e4
        have hfl : (xs.filter fun x => !p x).length = i' := by rw [← e4]; simp; omega
        refine ⟨_, rfl, ?_, HBW.out.trans z4⟩
        rw [hfl]
        have := own_take z3 (show i' ≤ xs.length by omega)
        have e5 : (nums IntKind.i64 zs).take (i' * 1) = nums .i64 (xs.filter fun x => !p x) := by rw [Nat.mul_one, nums, ← List.map_take, z2, e4]; rfl
        rw [e5] at this
        exact this
end Go.Proofs.Ythbkomkgciemiaa.PKM
/- Within. -/
namespace Go.Proofs.Ythbkomkgciemiaa.PKM
open Go.Proofs.Ythbkomkgciemiaa.RF
open Go.RowKit Go.Proofs.YthbkomkgciemiaaW.PrintWords Go.Proofs.YthbkomkgciemiaaW.PrintLast Go.Proofs.YthbkomkgciemiaaW.PrintMore
attribute [local go_sem] max2_int min2_int max_two min_two max_three min_three max_four min_four
set_option linter.unusedVariables false
set_option linter.unusedSimpArgs false
open Go.RowKit
open Go.Sort (grow)
attribute [local go_sem] Oper.semAt_some
/-- Whether the neighbourhood of a slot covers a key. -/
def coverF (m : Int) (ks : List Int) (g : List Hd) (t a : Int) : Bool := match metric_High.f m (rd ks a) t with
  | some r => decide (r ≤ (rd_T39 g a).f0)
  | none => false
def nearF (ks : List Int) (t : Int) (xs : List Int) : List Int := xs.filter fun x => !decide (rd ks x > t)
def lastF (from_ : Int) (xs : List Int) : Int := xs.getLastD from_
def withinV (m : Int) (ks : List Int) (g : List Hd) (from_ t : Int) : List Int × Int × Bool :=
  match (walkV ks g from_).find? (coverF m ks g t) with
  | some a => (nearF ks t (rd_T39 g a).f1, a, true)
  | none => ([], lastF from_ (walkV ks g from_), false)
def WRes (s0 : Nat) (W : World) (v : Value) (a : Int) (b : Bool) : Prop :=
  W.heap[s0 + 1 + 1 + 1]? = some (.cells #[v] 26 (0, 0)) ∧ W.heap[s0 + 1 + 1 + 1 + 1]? = some (.cells #[.int .i64 a] 3 (0, 0)) ∧ W.heap[s0 + 1 + 1 + 1 + 1 + 1]? = some (.cells #[.bool b] 4 (0, 0)) ∧ W.heap[s0 + 1 + 1 + 1 + 1 + 1 + 1]? = some (.cells #[.int .i64 0] 32 (0, 0))
/-- The blocks that the body writes. -/
def DW (s0 s1 k : Nat) : Prop := k = s0 + 1 + 1 + 1 ∨ k = s0 + 1 + 1 + 1 + 1 ∨ k = s0 + 1 + 1 + 1 + 1 + 1 ∨ k = s0 + 1 + 1 + 1 + 1 + 1 + 1 ∨ k = s1 + 1
def WI (m : Int) (ks : List Int) (g : List Hd) (t from_ : Int) (s0 s1 : Nat) (pre : List Int) (A : World) : Prop :=
  (∀ x ∈ pre, coverF m ks g t x = false) ∧ A.heap[s1 + 1]? = some (.cells #[.int .i64 (lastF from_ pre)] 3 (0, 0)) ∧ WRes s0 A (.slice none 0 0) 0 false
def WIx (m : Int) (ks : List Int) (g : List Hd) (t : Int) (s0 s2 : Nat) (c : Code) (pre : List Int) (A : World) : Prop :=
  c = .ret ∧ ∃ p x rv, pre = p ++ [x] ∧ (∀ y ∈ p, coverF m ks g t y = false) ∧ coverF m ks g t x = true ∧ WRes s0 A rv x true ∧
    A.ownsRow (s2 + 2) 3 1 rv (nearF ks t (rd_T39 g x).f1).length ((nearF ks t (rd_T39 g x).f1).map (Value.int .i64))
theorem C_blkI {w W : World} {A : Option Addr} {n : Nat} {xs : List Int} (h : Kd.C (Kd.int .i64) w A n xs) (hb : ∀ ad, A = some ad → 0 < n → W.heap[ad.block]? = w.heap[ad.block]?) : Kd.C (Kd.int .i64) W A n xs := by
  have hr : ReadsOf (Value.int .i64) (0 : Int) w A n xs := Kd.reads_of_C h
  refine Kd.C_of_reads (d := (0 : Int)) ⟨hr.1, hr.2.1, fun hn => ?_⟩
  obtain ⟨ad, e, hc⟩ := hr.2.2 hn
  refine ⟨ad, e, fun j hj => ?_⟩
  rw [← hc j hj]
  refine World.cell?_of_block (w := w) ?_
  have : (ad.add j).block = ad.block := by unfold Addr.add; split <;> rfl
  rw [this]
  exact hb ad e hn
theorem blk_of_R {w : World} {base : Nat} {A : Option Addr} {n c : Nat} {xs : List Int} {ok : Nat → Prop} (h : Kd.R (Kd.int .i64) 3 w base ok (.slice A n c) xs) : ∀ ad, A = some ad → 0 < n → base ≤ ad.block ∧ ad.block < w.heap.size := by
  rintro ad rfl _
  obtain ⟨inner, ho⟩ := Kd.R_own h
  exact ⟨own_base ho _ rfl, own_lt ho _ rfl⟩
theorem walkV_in {n : Nat} {ks : List Int} {g : List Hd} (hg : GoodG n g) (hk : ks.length = n) : ∀ (a : Int), 0 ≤ a → a < n → ∀ x ∈ walkV ks g a, 0 ≤ x ∧ x < n := by
  have main : ∀ (k : Nat) (a : Int), cntL ks a ≤ k → 0 ≤ a → a < n → ∀ x ∈ walkV ks g a, 0 ≤ x ∧ x < n := by
    intro k
    induction k with
    | zero =>
      intro a hc h0 h1 x hx
      rw [walkV] at hx
      split at hx
      · rename_i hh; have := cntL_lt ks a _ hh.2.1 hh.2.2 hh.1; omega
      · simp at hx; omega
    | succ k ih =>
      intro a hc h0 h1 x hx
      rw [walkV] at hx
      split at hx
      · rename_i hh
        have := cntL_lt ks a _ hh.2.1 hh.2.2 hh.1
        rcases List.mem_cons.1 hx with rfl | hx
        · omega
        · exact ih _ (by omega) hh.2.1 (by rw [← hk]; exact hh.2.2) x hx
      · simp at hx; omega
  exact fun a h0 h1 => main _ a (Nat.le_refl _) h0 h1
theorem World.heap_drew' (w : World) : w.drew.heap = w.heap := rfl
theorem results_cccc {P : Program} {fn : Func} {p1 p2 p3 p4 : Tmp} {t1 t2 t3 t4 : TypeId} (h : fn.results = #[.cell p1 t1, .cell p2 t2, .cell p3 t3, .cell p4 t4]) (tmps : Array Value) (w : World) (a1 a2 a3 a4 : Addr) (v1 v2 v3 v4 : Value)
    (h1 : tmps.getD p1 undef = .pointer (some a1)) (h2 : tmps.getD p2 undef = .pointer (some a2)) (h3 : tmps.getD p3 undef = .pointer (some a3)) (h4 : tmps.getD p4 undef = .pointer (some a4))
    (l1 : (loadVar t1 a1).run P w = .ok v1 w) (l2 : (loadVar t2 a2).run P w = .ok v2 w) (l3 : (loadVar t3 a3).run P w = .ok v3 w) (l4 : (loadVar t4 a4).run P w = .ok v4 w) :
    (results fn tmps).run P w = .ok (.tuple #[v1, v2, v3, v4]) w := by
  have h1' : tmps[p1]?.getD undef = .pointer (some a1) := by simpa using h1
  have h2' : tmps[p2]?.getD undef = .pointer (some a2) := by simpa using h2
  have h3' : tmps[p3]?.getD undef = .pointer (some a3) := by simpa using h3
  have h4' : tmps[p4]?.getD undef = .pointer (some a4) := by simpa using h4
  simp [results, h, h1', h2', h3', h4', asAddr, l1, l2, l3, l4]
theorem load_si (W : World) (a : Addr) (v : Value) (h : W.cell? a = some v) : (loadVar 26 a).run Try.prog W = .ok v W := by
  have := Try.underlying26
  go_simp
theorem load_i (W : World) (a : Addr) (v : Value) (h : W.cell? a = some v) : (loadVar 3 a).run Try.prog W = .ok v W := by
  have := Try.underlying3
  go_simp
theorem load_b (W : World) (a : Addr) (v : Value) (h : W.cell? a = some v) : (loadVar 4 a).run Try.prog W = .ok v W := by
  have := Try.underlying4
  go_simp
theorem load_e (W : World) (a : Addr) (v : Value) (h : W.cell? a = some v) : (loadVar 32 a).run Try.prog W = .ok v W := by
  have := Try.underlying32
  go_simp
theorem wres_run {fn : Func} {p1 p2 p3 p4 : Tmp} (h : fn.results = #[.cell p1 26, .cell p2 3, .cell p3 4, .cell p4 32]) (tmps : Array Value) (s0 : Nat) (W : World) (v : Value) (a : Int) (b : Bool) (hr : WRes s0 W v a b)
    (h1 : tmps.getD p1 undef = .pointer (some ⟨s0 + 1 + 1 + 1, 0, none⟩)) (h2 : tmps.getD p2 undef = .pointer (some ⟨s0 + 1 + 1 + 1 + 1, 0, none⟩)) (h3 : tmps.getD p3 undef = .pointer (some ⟨s0 + 1 + 1 + 1 + 1 + 1, 0, none⟩)) (h4 : tmps.getD p4 undef = .pointer (some ⟨s0 + 1 + 1 + 1 + 1 + 1 + 1, 0, none⟩)) :
    (results fn tmps).run Try.prog W = .ok (.tuple #[v, .int .i64 a, .bool b, .int .i64 0]) W :=
  results_cccc h tmps W _ _ _ _ _ _ _ _ h1 h2 h3 h4 (load_si _ _ _ (cell_of_blk hr.1)) (load_i _ _ _ (cell_of_blk hr.2.1)) (load_b _ _ _ (cell_of_blk hr.2.2.1)) (load_e _ _ _ (cell_of_blk hr.2.2.2))
theorem withinV_yes {m : Int} {ks : List Int} {g : List Hd} {from_ t x : Int} {p r : List Int} (hw : walkV ks g from_ = (p ++ [x]) ++ r) (h1 : ∀ y ∈ p, coverF m ks g t y = false) (h2 : coverF m ks g t x = true) : withinV m ks g from_ t = (nearF ks t (rd_T39 g x).f1, x, true) := by
  have : (walkV ks g from_).find? (coverF m ks g t) = some x := by
    rw [hw, List.append_assoc, List.find?_append, List.find?_eq_none.2 (fun y hy => by rw [h1 y hy]; simp)]
    simp [h2]
  unfold withinV; rw [this]
theorem withinV_no {m : Int} {ks : List Int} {g : List Hd} {from_ t : Int} (h1 : ∀ y ∈ walkV ks g from_, coverF m ks g t y = false) : withinV m ks g from_ t = ([], lastF from_ (walkV ks g from_), false) := by
  have : (walkV ks g from_).find? (coverF m ks g t) = none := List.find?_eq_none.2 (fun y hy => by rw [h1 y hy]; simp)
  unfold withinV; rw [this]
set_option maxHeartbeats 400000 in
set_option maxRecDepth 100000 in
theorem farC (Bs Bt : Nat) (A4 : Option Addr) (c4 : Nat) (ks : List Int) (t x : Int) (w : World) (h3 : w.cell? ⟨Bs, 3, none⟩ = some (.slice A4 ks.length c4)) (ht : w.cell? ⟨Bt, 0, none⟩ = some (.int .i64 t)) (hk : Kd.C (Kd.int .i64) w A4 ks.length ks) (hx0 : 0 ≤ x) (hx1 : x < ks.length) :
    Calls Try.prog 28 #[.int .i64 x, .pointer (some ⟨Bs, 0, none⟩), .pointer (some ⟨Bt, 0, none⟩)] w fun e w' => e = .returned (.bool (decide (rd ks x > t))) ∧ Drawn0 w w' := by
  obtain ⟨ad, rfl, hc⟩ := Kd.at_int hk x hx0 hx1
  have hu := Try.underlying56
  clear hk
  go_enter Try.func28, Try.ntmps28
  go_wp2
  go_quiet (fail)
  go_wp2
  go_ret
  exact ⟨ret_bool (by simp), ⟨_, rfl⟩⟩
set_option maxHeartbeats 1000000 in
set_option maxRecDepth 100000 in
theorem withinOkC (m : Int) (A1 : Option Addr) (c1 : Nat) (l : List (List Int)) (A2 : Option Addr) (c2 : Nat) (g : List Hd) (A3 : Option Addr) (c3 : Nat) (v : List Int) (from_ t : Int) (w : World) (hr1 : Kd.C (Kd.slice 3 (Kd.int .i64)) w A1 l.length l) (hc1 : l.length ≤ c1) (hr2 : Kd.C k39 w A2 g.length g) (hc2 : g.length ≤ c2) (hr3 : Kd.C (Kd.int .i64) w A3 v.length v) (hc3 : v.length ≤ c3) (hok : BegOk m l g v from_)
    (ht0 : 0 ≤ t) (ht1 : t ≤ 134217728) (hH : ∀ a : Int, 0 ≤ a → a < l.length → ∃ r, metric_High.f m (rd (keysV m l v) a) t = some r) :
    Calls Try.prog 12 #[.int .i64 m, .slice A1 l.length c1, .agg #[.slice A2 g.length c2], .slice A3 v.length c3, .int .i64 from_, .int .i64 t] w fun e w' => ∃ v0 : Value, e = .returned (.tuple #[v0, .int .i64 (withinV m (keysV m l v) g from_ t).2.1, .bool (withinV m (keysV m l v) g from_ t).2.2, .int .i64 0]) ∧ Kd.R (Kd.int .i64) 3 w' w.heap.size (fun _ => True) v0 (withinV m (keysV m l v) g from_ t).1 ∧ Below w.heap.size w w' := by
  have hu := Try.underlying56
  have hu2 := Try.underlying39
  have hu3 := Try.underlying25
  have HBg := Aside0.mk (fun W (hW : Below w.heap.size w W) => beginYes m A1 c1 l A2 c2 g A3 c3 v from_ W (Kd.C_below hr1 hW) hc1 (Kd.C_below hr2 hW) hc2 (Kd.C_below hr3 hW) hc3 hok.right hok.valid hok.one hok.alike hok.h0 hok.h1)
  have HG := Aside0.mk hr2
  have hkl := keysV_length m l v
  clear hr1 hr2 hr3
  generalize hks : keysV m l v = ks at HBg hkl hH ⊢
  have hok2 : GoodG ks.length g := by rw [hkl]; exact hok.good
  have h0 := hok.h0
  have h1 : from_ < ks.length := by rw [hkl]; exact hok.h1
  have hfew : ks.length ≤ 4096 := by rw [hkl]; exact hok.few
  have hH2 : ∀ a : Int, 0 ≤ a → a < ks.length → ∃ r, metric_High.f m (rd ks a) t = some r := by rw [hkl]; exact hH
  have HH := Aside0.mk hH2
  have HV := Aside0.mk hok2
  clear hks hok hok2 hkl hH hH2
  refine callsIn_wide (n := 0).1 ?_
  refine callsIn_of_wp_marks Try.func12 rfl trivial ?_ rfl
  simp only [Try.ntmps12, List.size_toArray, List.length_cons, List.length_nil, Nat.reduceAdd, Nat.reduceSub, Array.replicate_succ, Array.replicate_zero, List.push_toArray, List.append_toArray, List.nil_append, List.cons_append]
  have HBg2 := Aside0.mk (fun W (hW : Below w.heap.size w W) => (callsIn_wide (n := 0)).2 (HBg.out W hW))
  gi_wp2
  refine ⟨trivial, rfl, (HBg2.out _ (below_alloc (below_alloc (below_alloc (below_alloc (below_alloc (below_alloc (below_alloc (Below.refl _ w) _) _) _) _) _) _) _)).mono ?_⟩
  rintro e w1 ⟨A4, c4, rfl, hR, hb⟩
  have hsz := hb.size
  simp only [World.size_alloc] at hsz hR
  have HR := Aside0.mk (Kd.R_reads' hR).2.2
  have HA := Aside0.mk (blk_of_R hR)
  have HB := Aside0.mk (below_step (below_alloc (below_alloc (below_alloc (below_alloc (below_alloc (below_alloc (below_alloc (Below.refl _ w) _) _) _) _) _) _) _) hb)
  have X0 := blk_below (blk_alloc (blk_alloc (blk_alloc (blk_alloc (blk_alloc (blk_alloc (blk_new w (.cells #[.int .i64 m] 3)) _) _) _) _) _) _) hb
  have X1 := blk_below (blk_alloc (blk_alloc (blk_alloc (blk_alloc (blk_alloc (blk_new (w.alloc (.cells #[.int .i64 m] 3)) (.cells #[.slice A2 g.length c2] 25)) _) _) _) _) _) hb
  have X2 := blk_below (blk_alloc (blk_alloc (blk_alloc (blk_alloc (blk_new ((w.alloc (.cells #[.int .i64 m] 3)).alloc (.cells #[.slice A2 g.length c2] 25)) (.cells #[.int .i64 t] 3)) _) _) _) _) hb
  have X3 := blk_below (blk_alloc (blk_alloc (blk_alloc (blk_new (((w.alloc (.cells #[.int .i64 m] 3)).alloc (.cells #[.slice A2 g.length c2] 25)).alloc (.cells #[.int .i64 t] 3)) (.cells #[.slice none 0 0] 26)) _) _) _) hb
  have X4 := blk_below (blk_alloc (blk_alloc (blk_new ((((w.alloc (.cells #[.int .i64 m] 3)).alloc (.cells #[.slice A2 g.length c2] 25)).alloc (.cells #[.int .i64 t] 3)).alloc (.cells #[.slice none 0 0] 26)) (.cells #[.int .i64 0] 3)) _) _) hb
  have X5 := blk_below (blk_alloc (blk_new (((((w.alloc (.cells #[.int .i64 m] 3)).alloc (.cells #[.slice A2 g.length c2] 25)).alloc (.cells #[.int .i64 t] 3)).alloc (.cells #[.slice none 0 0] 26)).alloc (.cells #[.int .i64 0] 3)) (.cells #[.bool false] 4)) _) hb
  have X6 := blk_below (blk_new ((((((w.alloc (.cells #[.int .i64 m] 3)).alloc (.cells #[.slice A2 g.length c2] 25)).alloc (.cells #[.int .i64 t] 3)).alloc (.cells #[.slice none 0 0] 26)).alloc (.cells #[.int .i64 0] 3)).alloc (.cells #[.bool false] 4)) (.cells #[.int .i64 0] 32)) hb
  simp only [World.size_alloc] at X0 X1 X2 X3 X4 X5 X6
  have d2 : ∀ o, (w1.alloc o).cell? ⟨w.heap.size + 1 + 1, 0, none⟩ = some (.int .i64 t) := fun o => cell_of_blk (blk_alloc X2 o)
  have HX := Aside0.mk (And.intro X0 (And.intro X1 (And.intro X2 (And.intro X3 (And.intro X4 (And.intro X5 X6))))))
  clear hb hR HBg HBg2 X0 X1 X2 X3 X4 X5 X6
  unfold searchV
  gi_wp2
  have HW := Aside0.mk (fun W : World => (callsIn_wide (n := 0)).2 (walkC (.agg #[.int .i64 m, .slice A1 l.length c1, .slice A2 g.length c2, .slice A4 ks.length c4]) from_ W _ rfl rfl))
  refine ⟨trivial, rfl, (HW.out _).mono ?_⟩
  rintro e w2 ⟨rfl, hw2⟩
  simp only [World.size_alloc] at hw2 ⊢
  have hsz2 : w2.heap.size = (w1.heap.size + 1 + 1 + 1) + 1 := by rw [hw2]; simp
  have hb2 : Below w1.heap.size w1 w2 := by rw [hw2]; exact below_alloc (below_alloc (below_alloc (below_alloc (Below.refl _ w1) _) _) _) _
  obtain ⟨S, hS⟩ : ∃ S : Obj, S = .cells #[.int .i64 m, .slice A1 l.length c1, .slice A2 g.length c2, .slice A4 ks.length c4] 56 := ⟨_, rfl⟩
  obtain ⟨Fb, hFb⟩ : ∃ S : Obj, S = .cells #[.int .i64 from_] 3 := ⟨_, rfl⟩
  rw [← hS, ← hFb] at hw2
  have hp0 : w2.heap[w1.heap.size]? = some S := by
    rw [hw2]
    exact blk_alloc (blk_alloc (blk_alloc (blk_new w1 S) _) _) _
  have hp1 : w2.heap[w1.heap.size + 1]? = some Fb := by
    rw [hw2]
    have := blk_alloc (blk_alloc (blk_new (w1.alloc S) Fb) S) Fb
    simpa using this
  have hp2 : w2.heap[w1.heap.size + 1 + 1]? = some S := by
    rw [hw2]
    have := blk_alloc (blk_new ((w1.alloc S).alloc Fb) S) Fb
    simpa using this
  have hp3 : w2.heap[w1.heap.size + 1 + 1 + 1]? = some Fb := by
    rw [hw2]
    have := blk_new (((w1.alloc S).alloc Fb).alloc S) Fb
    simpa using this
  subst hS hFb
  clear hw2
  have HBZ := Aside0.mk (HB.out.trans (hb2.mono (show w.heap.size ≤ w1.heap.size by omega)))
  have HSQ := Aside0.mk (walk_seqD (DW w.heap.size w1.heap.size) m A1 l.length c1 A2 c2 g A4 c4 ks from_ (w1.heap.size + 1 + 1) (w1.heap.size + 1 + 1 + 1) w2 hp2 hp3 (by omega) hsz2 (fun h => by unfold DW at h; omega) (fun h => by unfold DW at h; omega)
    (fun W hW => Kd.C_below HG.out (HB.out.trans ((hb2.mono (by omega)).trans ((hW.mono (by omega)).below (fun k hk h => by unfold DW at h; omega)))))
    (fun W hW => C_blkI HR.out (fun ad hA hn => by have h1 := HA.out ad hA hn; exact (hW.block _ (by omega) (fun h => by unfold DW at h; omega)).trans (hb2.block _ (by omega)))) HV.out h0 h1)
  gi_wp2
  refine wp_rangeD (gf := 46) (lb := #[.pointer (some ⟨w1.heap.size + 1 + 1 + 1, 0, none⟩), .pointer (some ⟨w1.heap.size + 1 + 1, 0, none⟩)]) rfl (enters_of Try.func46 (by kernel_rfl) rfl) HSQ.out (Bx.refl _ _) (by omega) (by omega) (fun _ => rfl)
    (WI m ks g t from_ w.heap.size w1.heap.size) (WIx m ks g t w.heap.size w2.heap.size)
    ?fI ?fIx ?start (fun x a' _ => a' = { tmps := #[.int .i64 m, .slice A1 l.length c1, .agg #[.slice A2 g.length c2], .slice A3 v.length c3, .int .i64 from_, .int .i64 t, .pointer (some ⟨w.heap.size, 0, none⟩), undef, .pointer (some ⟨w.heap.size + 1, 0, none⟩), undef, undef, .pointer (some ⟨w.heap.size + 1 + 1, 0, none⟩), .pointer (some ⟨w.heap.size + 1 + 1 + 1, 0, none⟩), .pointer (some ⟨w.heap.size + 1 + 1 + 1 + 1, 0, none⟩), .pointer (some ⟨w.heap.size + 1 + 1 + 1 + 1 + 1, 0, none⟩), .pointer (some ⟨w.heap.size + 1 + 1 + 1 + 1 + 1 + 1, 0, none⟩), .pointer (some ⟨w1.heap.size, 0, none⟩), .bool true, .pointer (some ⟨w1.heap.size + 1, 0, none⟩), .int .i64 x, undef, undef, .tuple #[.agg #[.int .i64 m, .slice A1 l.length c1, .slice A2 g.length c2, .slice A4 ks.length c4], .bool true], .int .i64 m, .slice A1 l.length c1, .agg #[.slice A2 g.length c2], .slice A3 v.length c3, .int .i64 from_, .tuple #[.agg #[.int .i64 m, .slice A1 l.length c1, .slice A2 g.length c2, .slice A4 ks.length c4], .bool true], .agg #[.int .i64 m, .slice A1 l.length c1, .slice A2 g.length c2, .slice A4 ks.length c4], .bool true, .bool true, .bool false, .bool false, .int .i64 t, .bool (decide (t < 0)), .bool (decide (t < 0)), .bool (decide (t < 0)), .int .i64 t, .bool (decide (134217728 < t)), .bool (decide (t < 0) || decide (134217728 < t)), .int .i64 from_, .agg #[.int .i64 m, .slice A1 l.length c1, .slice A2 g.length c2, .slice A4 ks.length c4], .int .i64 from_, .func (.func 46) #[] #[.pointer (some ⟨w1.heap.size + 1 + 1 + 1, 0, none⟩), .pointer (some ⟨w1.heap.size + 1 + 1, 0, none⟩)], .int .i64 x, undef, undef, undef, undef, undef, undef, undef, undef, undef, undef, undef, undef, undef, undef, undef, undef, undef, undef, undef, undef, undef, undef, undef, undef], defers := [] }) (fun _ _ _ _ _ hs _ => hs)
    ?assign ?body ?done ?stop
  case fI =>
    rintro s A B ⟨h1, h2, h3, h4, h5, h6⟩ ⟨hbl, hm⟩
    exact ⟨h1, (hbl.block _ (by omega)).trans h2, (hbl.block _ (by omega)).trans h3, (hbl.block _ (by omega)).trans h4, (hbl.block _ (by omega)).trans h5, (hbl.block _ (by omega)).trans h6⟩
  case fIx =>
    rintro c s A B ⟨hc, p, x, rv, h1, h2, h3, ⟨h4, h5, h6, h7⟩, h8⟩ ⟨hbl, hm⟩
    exact ⟨hc, p, x, rv, h1, h2, h3, ⟨(hbl.block _ (by omega)).trans h4, (hbl.block _ (by omega)).trans h5, (hbl.block _ (by omega)).trans h6, (hbl.block _ (by omega)).trans h7⟩, own_move h8 fun k hk hl => hm k (by omega) hl (by omega) (by omega)⟩
  case start =>
    obtain ⟨_, _, _, h3, h4, h5, h6⟩ := HX.out
    exact ⟨by simp, hp1, blk_below h3 hb2, blk_below h4 hb2, blk_below h5 hb2, blk_below h6 hb2⟩
  case assign =>
    intro l_ pre x rest A K hxs hi hsz3 hb hK
    simp only [encI]
    gi_wp2
    exact hK _ _ (Below.refl _ _) rfl
  case body =>
    rintro l_ pre x rest a' A hxs ⟨hcov, hL, hq3, hq4, hq5, hq6⟩ rfl hsz3 hb
    obtain ⟨hx0, hx1⟩ := walkV_in HV.out rfl from_ h0 h1 x (by rw [hxs]; simp)
    have hff := frozen_of_blk hL
    have hcl := cell_of_blk hL
    gi_upto_region 8 with (fail)
    have hbn : Bx (DW w.heap.size w1.heap.size) (w1.heap.size + 1 + 1 + 1) w2 (A.setCell ⟨w1.heap.size + 1, 0, none⟩ (.int .i64 x)) := hb.set (p := ⟨w1.heap.size + 1, 0, none⟩) (.inr (by simp [DW])) _
    have HAN := Aside0.mk ((Bx.refl (D := DW w.heap.size w1.heap.size) (w1.heap.size + 1 + 1 + 1 + 1) A).set (p := ⟨w1.heap.size + 1, 0, none⟩) (.inr (by simp [DW])) (.int .i64 x))
    have hLn := blk_put hL 0 (.int .i64 x) rfl
    have hsn : (A.setCell ⟨w1.heap.size + 1, 0, none⟩ (.int .i64 x)).heap.size = A.heap.size := by simp
    have hoth : ∀ k, k ≠ w1.heap.size + 1 → (A.setCell ⟨w1.heap.size + 1, 0, none⟩ (.int .i64 x)).heap[k]? = A.heap[k]? := fun k hk => Below.heap_setCell _ _ _ _ hk
    generalize A.setCell ⟨w1.heap.size + 1, 0, none⟩ (.int .i64 x) = Wn at hbn hLn hsn hoth HAN ⊢
    have HO := Aside0.mk hoth
    have HL := Aside0.mk hLn
    have HQ := Aside0.mk (show WRes w.heap.size Wn (.slice none 0 0) 0 false from ⟨(hoth _ (by omega)).trans hq3, (hoth _ (by omega)).trans hq4, (hoth _ (by omega)).trans hq5, (hoth _ (by omega)).trans hq6⟩)
    have HBN := Aside0.mk hbn
    have HCOV := Aside0.mk hcov
    have HXS := Aside0.mk hxs
    have hbw := HB.out.trans ((hb2.mono (show w.heap.size ≤ w1.heap.size by omega)).trans ((hbn.mono (by omega)).below (fun k hk h => by unfold DW at h; omega)))
    obtain ⟨X0, X1, X2, _⟩ := HX.out
    have hk2 : ∀ k, k < w1.heap.size → ¬ DW w.heap.size w1.heap.size k → Wn.heap[k]? = w1.heap[k]? := fun k hk hd => (hbn.block k (by omega) hd).trans (hb2.block k hk)
    have y0 := cell_of_blk ((hk2 w.heap.size (by omega) (by unfold DW; omega)).trans X0)
    have y1 := cell_of_blk ((hk2 (w.heap.size + 1) (by omega) (by unfold DW; omega)).trans X1)
    have y2 := cell_of_blk ((hk2 (w.heap.size + 1 + 1) (by omega) (by unfold DW; omega)).trans X2)
    have YS := (hbn.block w1.heap.size (by omega) (by unfold DW; omega)).trans hp0
    have y3 : Wn.cell? ⟨w1.heap.size, 3, none⟩ = some (.slice A4 ks.length c4) := by simp [World.cell?, YS]
    obtain ⟨ad, A1', c1', hA2, q0, q1, hl1, hC1⟩ := at_T39 (Kd.C_below HG.out hbw) x hx0 (by rw [HV.out.1]; exact hx1)
    subst hA2
    obtain ⟨ak, hA4, q2⟩ := Kd.at_int (C_blkI (W := Wn) HR.out (fun ad hA hn => hk2 _ (HA.out ad hA hn).2 (fun h => by have := HA.out ad hA hn; unfold DW at h; omega))) x hx0 hx1
    have hgl : x < (g.length : Int) := by rw [HV.out.1]; exact hx1
    obtain ⟨r, hr⟩ := HH.out x hx0 hx1
    have HYS := Aside0.mk YS
    have HY2 := Aside0.mk ((hk2 (w.heap.size + 1 + 1) (by omega) (by unfold DW; omega)).trans X2)
    have HC1 := Aside0.mk hC1
    have HBW := Aside0.mk hbw
    have HKS := Aside0.mk (C_blkI (W := Wn) HR.out (fun ad hA hn => hk2 _ (HA.out ad hA hn).2 (fun h => by have := HA.out ad hA hn; unfold DW at h; omega)))
    have hcv : coverF m ks g t x = decide (r ≤ (rd_T39 g x).f0) := by unfold coverF; rw [hr]
    have HCV := Aside0.mk hcv
    clear hoth hLn hbn hcov hxs hC1 hbw hk2 YS X0 X1 X2 hff hcl hL hq3 hq4 hq5 hq6 d2 hcv hp0 hp1 hp2 hp3
    have hsn1 : A.heap.size ≤ Wn.heap.size := by omega
    have hsn2 : Wn.heap.size ≤ A.heap.size := by omega
    clear hsn
    gi_upto_region 9 with (fail)
    have hbm := below_alloc (Below.refl Wn.heap.size Wn) (.cells #[.int .i64 (rd_T39 g x).f0, .slice A1' (rd_T39 g x).f1.length c1'] 39)
    have hnm := blk_new Wn (.cells #[.int .i64 (rd_T39 g x).f0, .slice A1' (rd_T39 g x).f1.length c1'] 39)
    have hsm : (Wn.alloc (.cells #[.int .i64 (rd_T39 g x).f0, .slice A1' (rd_T39 g x).f1.length c1'] 39)).heap.size = Wn.heap.size + 1 := by simp
    generalize (Wn.alloc (.cells #[.int .i64 (rd_T39 g x).f0, .slice A1' (rd_T39 g x).f1.length c1'] 39)) = Wm at hbm hnm hsm ⊢
    have k0 := cell_regrown ((hbm.cell (World.block_lt_of_cell? _ _ y0)).trans y0)
    have k2 := cell_regrown ((hbm.cell (World.block_lt_of_cell? _ _ y2)).trans y2)
    have k3 := cell_regrown ((hbm.cell (World.block_lt_of_cell? _ _ y3)).trans y3)
    subst hA4
    have k4 := cell_regrown ((hbm.cell (World.block_lt_of_cell? _ _ q2)).trans q2)
    have k5 : ∀ d os, (grow (redrawn Wm d) os).cell? ⟨Wn.heap.size, 0, none⟩ = some (.int .i64 (rd_T39 g x).f0) := cell_regrown (by simp [World.cell?, hnm])
    have cC : ∀ d os, CallsIn (Fence.wide.inRound l_) 0 Try.prog 24 #[.int .i64 m, .int .i64 (rd ks x), .int .i64 t, .int .i64 (rd_T39 g x).f0] (grow (redrawn Wm d) os) fun e w'' => e = .returned (.bool (decide (r ≤ (rd_T39 g x).f0))) ∧ ∃ p : Regrown, w'' = grow (redrawn Wm p.d) p.os := fun d os => CallsIn.regrown_of (callsIn_wide.2 (coversC m (rd ks x) t _ r _ hr))
    have HBM := Aside0.mk hbm
    have HNM := Aside0.mk hnm
    clear y0 y1 y2 y3 q0 q1 q2 hbm hnm hr
    refine region_quiet_below (by kernel_rfl) (by kernel_rfl) (by kernel_rfl) ?_
    repeat (refine wpQuietIn_step (fun _ _ _ _ => trivial) (fun K hK => ?_); go_simp; first | (refine hK _ ?_; clear hK K) | (apply Exists.intro; refine ⟨fun _ => ?_, hK _ ?_⟩; (exact ⟨rfl, cC _ _⟩); clear hK K))
    refine wpQuietIn_nil ?_
    intro _ hw'
    obtain ⟨⟨dq, osq⟩, hw''⟩ := hw'
    subst hw''
    have hbq := below_regrown Wm dq osq
    generalize grow (redrawn Wm dq) osq = Wq at hbq ⊢
    clear k0 k2 k3 k4 k5 cC
    have hsq := hbq.size
    have hbnq : Below Wn.heap.size Wn Wq := HBM.out.trans (hbq.mono (by omega))
    have HNQ := Aside0.mk (blk_below HNM.out hbq)
    have HLQ := Aside0.mk (blk_below HL.out hbnq)
    obtain ⟨z3, z4, z5, z6⟩ := HQ.out
    have Z3 := blk_below z3 hbnq
    have Z4 := blk_below z4 hbnq
    have Z5 := blk_below z5 hbnq
    have Z6 := blk_below z6 hbnq
    clear z3 z4 z5 z6
    have HBQ := Aside0.mk hbnq
    have hAq : ∀ k, k < A.heap.size → k ≠ w1.heap.size + 1 → Wq.heap[k]? = A.heap[k]? := fun k hk hne => (hbnq.block k (by omega)).trans (HO.out k hne)
    have HAQ := Aside0.mk hAq
    clear hbnq hbq hAq
    by_cases hle : r ≤ (rd_T39 g x).f0
    · have HC2 := Aside0.mk (show coverF m ks g t x = true by rw [HCV.out]; simpa using hle)
      have u0 : Wq.cell? ⟨Wn.heap.size, 1, none⟩ = some (.slice A1' (rd_T39 g x).f1.length c1') := by simp [World.cell?, HNQ.out]
      have HCL := Aside0.mk (fun (h : (rd_T39 g x).f1.length < 17592186044416) => (callsIn_wide (n := 0)).2 (slices_Clone_int_int.calls A1' c1' (rd_T39 g x).f1 (rd_T39 g x).f1 Wq (Kd.C_below HC1.out HBQ.out) hl1 (by unfold slices_Clone_int_int.f; rw [if_pos h])))
      obtain ⟨hs1, hs2, hs3⟩ := HV.out.2 _ (rd_T_mem (g := g) hx0 hgl)
      have HS3 := Aside0.mk hs3
      clear hs3
      gi_wp2
      refine ⟨trivial, rfl, (HCL.out (by omega)).mono ?_⟩
      rintro e w3 ⟨v3, rfl, hR3, hb3⟩
      have ho3 := Kd.own_of_R hR3
      obtain ⟨g3, cap3, hv3⟩ : ∃ g3 cap3, v3 = .slice (some ⟨g3, 0, none⟩) (rd_T39 g x).f1.length cap3 := by
        rcases ho3.2 with ⟨_, h0⟩ | ⟨g', cap', cur, rfl, hbase, hb, h1, h2, h3, h4⟩
        · omega
        · exact ⟨_, _, rfl⟩
      subst hv3
      have hPC : PredC 28 #[.pointer (some ⟨w1.heap.size, 0, none⟩), .pointer (some ⟨w.heap.size + 1 + 1, 0, none⟩)] (fun y => decide (rd ks y > t)) Wq.heap.size (rd_T39 g x).f1 w3 := fun W hW y hy => by
        obtain ⟨hy0, hy1⟩ := HS3.out y hy
        have hbW := HBQ.out.trans ((hb3.trans hW).mono (show Wn.heap.size ≤ Wq.heap.size by omega))
        have e3 := blk_below HYS.out hbW
        refine farC _ _ (some ak) c4 ks t y W ?_ (cell_of_blk (blk_below HY2.out hbW)) (Kd.C_below HKS.out hbW) hy0 hy1
        simp [World.cell?, e3]
      have HD := Aside0.mk ((callsIn_wide (n := 0)).2 (deleteC 28 _ _ _ rfl (enters_of Try.func28 (by kernel_rfl) rfl) _ Wq.heap.size g3 cap3 (rd_T39 g x).f1 w3 ho3 hPC))
      have HB3 := Aside0.mk hb3
      have hs5 := hb3.size
      clear hR3 ho3 hPC hb3 HCL
      gi_wp2
      refine ⟨trivial, rfl, HD.out.mono ?_⟩
      rintro e w4 ⟨rv, rfl, ho4, hb4⟩
      obtain ⟨Ar, cr, rfl⟩ := own_slice ho4
      have hb5 := HB3.out.trans (hb4.mono (Nat.le_refl _))
      have V3 := blk_below Z3 hb5
      have V4 := blk_below Z4 hb5
      have V5 := blk_below Z5 hb5
      have V6 := blk_below Z6 hb5
      have HB5 := Aside0.mk hb5
      have HO4 := Aside0.mk ho4
      have hs6 := hb5.size
      clear hb5 hb4 ho4 HD Z3 Z4 Z5 Z6
      have a3 := cell_of_blk V3
      have a4 := cell_of_blk V4
      have a5 := cell_of_blk V5
      have a6 := cell_of_blk V6
      have b3 := frozen_of_blk V3
      have b4 := frozen_of_blk V4
      have b5 := frozen_of_blk V5
      have b6 := frozen_of_blk V6
      have HVV := Aside0.mk (And.intro V3 (And.intro V4 (And.intro V5 V6)))
      clear V3 V4 V5 V6
      gi_wp2
      obtain ⟨V3, V4, V5, V6⟩ := HVV.out
      have hset : ∀ k, k ≠ w.heap.size + 1 + 1 + 1 → k ≠ w.heap.size + 1 + 1 + 1 + 1 → k ≠ w.heap.size + 1 + 1 + 1 + 1 + 1 → k ≠ w.heap.size + 1 + 1 + 1 + 1 + 1 + 1 → ((((w4.setCell ⟨w.heap.size + 1 + 1 + 1, 0, none⟩ (.slice Ar (nearF ks t (rd_T39 g x).f1).length cr)).setCell ⟨w.heap.size + 1 + 1 + 1 + 1, 0, none⟩ (.int .i64 x)).setCell ⟨w.heap.size + 1 + 1 + 1 + 1 + 1, 0, none⟩ (.bool true)).setCell ⟨w.heap.size + 1 + 1 + 1 + 1 + 1 + 1, 0, none⟩ (.int .i64 0)).heap[k]? = w4.heap[k]? := fun k n3 n4 n5 n6 => by
        rw [Below.heap_setCell _ _ _ _ n6, Below.heap_setCell _ _ _ _ n5, Below.heap_setCell _ _ _ _ n4, Below.heap_setCell _ _ _ _ n3]
      have hr1 : ∀ k, w2.heap.size ≤ k → k < A.heap.size → k ≠ w1.heap.size + 1 → w4.heap[k]? = A.heap[k]? := fun k h1 h2 h3 => (HB5.out.block k (by omega)).trans (HAQ.out k h2 h3)
      refine ⟨⟨?_, (hset _ (by omega) (by omega) (by omega) (by omega)).trans (hr1 _ (by omega) (by omega) (by omega)), (hset _ (by omega) (by omega) (by omega) (by omega)).trans (hr1 _ (by omega) (by omega) (by omega))⟩, rfl, pre, x, .slice Ar (nearF ks t (rd_T39 g x).f1).length cr, rfl, HCOV.out, HC2.out, ⟨?_, ?_, ?_, ?_⟩, ?_⟩
      · have e3 : DW w.heap.size w1.heap.size (w.heap.size + 1 + 1 + 1) := by unfold DW; omega
        have e4 : DW w.heap.size w1.heap.size (w.heap.size + 1 + 1 + 1 + 1) := by unfold DW; omega
        have e5 : DW w.heap.size w1.heap.size (w.heap.size + 1 + 1 + 1 + 1 + 1) := by unfold DW; omega
        have e6 : DW w.heap.size w1.heap.size (w.heap.size + 1 + 1 + 1 + 1 + 1 + 1) := by unfold DW; omega
        have q0 := (HAN.out.trans (Bx.of (HBQ.out.mono (by omega)))).trans (Bx.of (HB5.out.mono (by omega)))
        have q1 := q0.set (p := ⟨w.heap.size + 1 + 1 + 1, 0, none⟩) (Or.inr e3) (.slice Ar (nearF ks t (rd_T39 g x).f1).length cr)
        have q2 := q1.set (p := ⟨w.heap.size + 1 + 1 + 1 + 1, 0, none⟩) (Or.inr e4) (.int .i64 x)
        have q3 := q2.set (p := ⟨w.heap.size + 1 + 1 + 1 + 1 + 1, 0, none⟩) (Or.inr e5) (.bool true)
        exact q3.set (p := ⟨w.heap.size + 1 + 1 + 1 + 1 + 1 + 1, 0, none⟩) (Or.inr e6) (.int .i64 0)
      · rw [Below.heap_setCell _ _ _ _ (by simp <;> omega), Below.heap_setCell _ _ _ _ (by simp <;> omega), Below.heap_setCell _ _ _ _ (by simp <;> omega)]
        exact blk_put V3 0 _ rfl
      · rw [Below.heap_setCell _ _ _ _ (by simp <;> omega), Below.heap_setCell _ _ _ _ (by simp <;> omega)]
        exact blk_put ((Below.heap_setCell _ _ _ _ (by simp <;> omega)).trans V4) 0 _ rfl
      · rw [Below.heap_setCell _ _ _ _ (by simp <;> omega)]
        exact blk_put ((Below.heap_setCell _ _ _ _ (by simp <;> omega)).trans ((Below.heap_setCell _ _ _ _ (by simp <;> omega)).trans V5)) 0 _ rfl
      · exact blk_put ((Below.heap_setCell _ _ _ _ (by simp <;> omega)).trans ((Below.heap_setCell _ _ _ _ (by simp <;> omega)).trans ((Below.heap_setCell _ _ _ _ (by simp <;> omega)).trans V6))) 0 _ rfl
      · exact own_lower (own_move HO4.out fun k hk _ => hset k (by omega) (by omega) (by omega) (by omega)) (by omega)
    · have HC2 := Aside0.mk (show coverF m ks g t x = false by rw [HCV.out]; simpa using hle)
      have HZ := Aside0.mk (And.intro Z3 (And.intro Z4 (And.intro Z5 Z6)))
      clear Z3 Z4 Z5 Z6
      gi_wp2
      refine ⟨⟨HAN.out.trans (Bx.of (HBQ.out.mono (by omega))), HAQ.out _ (by omega) (by omega), HAQ.out _ (by omega) (by omega)⟩, ?_, ?_, HZ.out⟩
      · intro y hy
        rcases List.mem_append.1 hy with hy | hy
        · exact HCOV.out y hy
        · rw [List.mem_singleton.1 hy]; exact HC2.out
      · have e : lastF from_ (pre ++ [x]) = x := by simp [lastF]
        rw [e]; exact HLQ.out
  case done =>
    rintro W ⟨hcov, hL, hq3, hq4, hq5, hq6⟩ hb hK
    have a0 := cell_of_blk hL
    have a3 := cell_of_blk hq3
    have a4 := cell_of_blk hq4
    have a5 := cell_of_blk hq5
    have a6 := cell_of_blk hq6
    have b3 := frozen_of_blk hq3
    have b4 := frozen_of_blk hq4
    have b5 := frozen_of_blk hq5
    have b6 := frozen_of_blk hq6
    have HB7 := Aside0.mk hb
    have HCV := Aside0.mk hcov
    have HQ := Aside0.mk (And.intro hq3 (And.intro hq4 (And.intro hq5 hq6)))
    have HKK := Aside0.mk hK
    clear hb hcov hq3 hq4 hq5 hq6 hL hK d2 hp0 hp1 hp2 hp3 hb2
    gi_upto_region 12 with (fail)
    gi_region
    gi_wp2
    generalize hWd : ((((W.setCell ⟨w.heap.size + 1 + 1 + 1, 0, none⟩ (.slice none 0 0)).setCell ⟨w.heap.size + 1 + 1 + 1 + 1, 0, none⟩ (.int .i64 (lastF from_ (walkV ks g from_)))).setCell ⟨w.heap.size + 1 + 1 + 1 + 1 + 1, 0, none⟩ (.bool false)).setCell ⟨w.heap.size + 1 + 1 + 1 + 1 + 1 + 1, 0, none⟩ (.int .i64 0)).drew = Wd
    obtain ⟨V3, V4, V5, V6⟩ := HQ.out
    have hset : ∀ k, k ≠ w.heap.size + 1 + 1 + 1 → k ≠ w.heap.size + 1 + 1 + 1 + 1 → k ≠ w.heap.size + 1 + 1 + 1 + 1 + 1 → k ≠ w.heap.size + 1 + 1 + 1 + 1 + 1 + 1 → Wd.heap[k]? = W.heap[k]? := fun k n3 n4 n5 n6 => by
      rw [← hWd, World.heap_drew', Below.heap_setCell _ _ _ _ n6, Below.heap_setCell _ _ _ _ n5, Below.heap_setCell _ _ _ _ n4, Below.heap_setCell _ _ _ _ n3]
    have hw2 : w2.heap.size ≤ W.heap.size := HB7.out.size
    have hbd : Below w.heap.size W Wd := by
      rw [← hWd]
      exact below_drew (((((Below.refl _ W).setCell (p := ⟨w.heap.size + 1 + 1 + 1, 0, none⟩) (by simp; omega) _).setCell (p := ⟨w.heap.size + 1 + 1 + 1 + 1, 0, none⟩) (by simp; omega) _).setCell (p := ⟨w.heap.size + 1 + 1 + 1 + 1 + 1, 0, none⟩) (by simp; omega) _).setCell (p := ⟨w.heap.size + 1 + 1 + 1 + 1 + 1 + 1, 0, none⟩) (by simp; omega) _)
    have hsW : W.heap.size ≤ Wd.heap.size := hbd.size
    have hr : WRes w.heap.size Wd (.slice none 0 0) (lastF from_ (walkV ks g from_)) false := by
      refine ⟨?_, ?_, ?_, ?_⟩
      · rw [← hWd, World.heap_drew', Below.heap_setCell _ _ _ _ (by simp <;> omega), Below.heap_setCell _ _ _ _ (by simp <;> omega), Below.heap_setCell _ _ _ _ (by simp <;> omega)]
        exact blk_put V3 0 _ rfl
      · rw [← hWd, World.heap_drew', Below.heap_setCell _ _ _ _ (by simp <;> omega), Below.heap_setCell _ _ _ _ (by simp <;> omega)]
        exact blk_put ((Below.heap_setCell _ _ _ _ (by simp <;> omega)).trans V4) 0 _ rfl
      · rw [← hWd, World.heap_drew', Below.heap_setCell _ _ _ _ (by simp <;> omega)]
        exact blk_put ((Below.heap_setCell _ _ _ _ (by simp <;> omega)).trans ((Below.heap_setCell _ _ _ _ (by simp <;> omega)).trans V5)) 0 _ rfl
      · rw [← hWd, World.heap_drew']
        exact blk_put ((Below.heap_setCell _ _ _ _ (by simp <;> omega)).trans ((Below.heap_setCell _ _ _ _ (by simp <;> omega)).trans ((Below.heap_setCell _ _ _ _ (by simp <;> omega)).trans V6))) 0 _ rfl
    have hK3 := (hset w2.heap.size (by omega) (by omega) (by omega) (by omega)).trans HKK.out
    clear hWd
    refine ⟨by simp, .inl ⟨_, _, rfl, run_takeDeferred hK3, ?_⟩⟩
    have hput : ∀ k, k ≠ w2.heap.size → (Wd.putObj w2.heap.size (Obj.deferred none)).heap[k]? = Wd.heap[k]? := fun k hk => World.putObj_heap_other (by omega)
    rw [withinV_no HCV.out]
    obtain ⟨V3, V4, V5, V6⟩ := hr
    refine ⟨_, wres_run rfl _ w.heap.size _ (.slice none 0 0) (lastF from_ (walkV ks g from_)) false ⟨(hput _ (by omega)).trans V3, (hput _ (by omega)).trans V4, (hput _ (by omega)).trans V5, (hput _ (by omega)).trans V6⟩ rfl rfl rfl rfl, _, rfl, Kd.R_nil _ _ _ _ _, ?_⟩
    have hbz : Below w.heap.size w2 W := (HB7.out.mono (by omega)).below (fun k hk h => by unfold DW at h; omega)
    exact ((HBZ.out.trans hbz).trans hbd).trans (putObj_below _ _ (by omega))
  case stop =>
    rintro c pre W hpre ⟨rfl, p, x, rv, h1, h2, h3, ⟨h4, h5, h6, h7⟩, h8⟩ hb hK
    have HB7 := Aside0.mk hb
    have HQ := Aside0.mk (And.intro h4 (And.intro h5 (And.intro h6 h7)))
    have HKK := Aside0.mk hK
    clear hb h4 h5 h6 h7 hK d2 hp0 hp1 hp2 hp3 hb2
    gi_wp2
    refine ⟨by simp, .inl ⟨_, _, rfl, run_takeDeferred HKK.out, ?_⟩⟩
    obtain ⟨pr, hpr⟩ := hpre
    obtain ⟨V3, V4, V5, V6⟩ := HQ.out
    have hw2 : w2.heap.size ≤ W.heap.size := HB7.out.size
    have hput : ∀ k, k ≠ w2.heap.size → (W.putObj w2.heap.size (Obj.deferred none)).heap[k]? = W.heap[k]? := fun k hk => World.putObj_heap_other (by omega)
    have hE := withinV_yes (m := m) (ks := ks) (g := g) (from_ := from_) (t := t) (x := x) (p := p) (r := pr) (by rw [← h1]; exact hpr.symm) h2 h3
    rw [hE]
    refine ⟨_, wres_run rfl _ w.heap.size _ rv x true ⟨(hput _ (by omega)).trans V3, (hput _ (by omega)).trans V4, (hput _ (by omega)).trans V5, (hput _ (by omega)).trans V6⟩ rfl rfl rfl rfl, _, rfl, ?_, ?_⟩
    · exact Kd.R_of_own (enc := Value.int .i64) (h1 := fun _ => rfl) (own_lower (own_move h8 fun k hk _ => hput k (by omega)) (by omega)) (fun _ _ => trivial)
    · have hbz : Below w.heap.size w2 W := (HB7.out.mono (by omega)).below (fun k hk h => by unfold DW at h; omega)
      exact (HBZ.out.trans hbz).trans (putObj_below _ _ (by omega))
end Go.Proofs.Ythbkomkgciemiaa.PKM
