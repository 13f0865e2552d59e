/- Texts of this claim, merged: part 11. -/
import Derived.Test.YthbkomkgciemiaaGreatCF3
import Derived.Test.YthbkomkgciemiaaGreatCF4
import Derived.Test.YthbkomkgciemiaaGreatCF10
import Derived.Test.YthbkomkgciemiaaGreatCF8
import Derived.Test.YthbkomkgciemiaaGreatCF6
namespace Go.Proofs.YthbkomkgciemiaaGreat.PKF
open Go.RowKit Go.Proofs.YthbkomkgciemiaaGreatW.PrintWords Go.Proofs.YthbkomkgciemiaaGreatW.PrintLast Go.Proofs.YthbkomkgciemiaaGreatW.PrintMore
attribute [local go_sem] max2_int min2_int max_two min_two max_three min_three max_four min_four   -- for this text's walks alone
set_option linter.unusedVariables false
set_option linter.unusedSimpArgs false
mutual
def graph_Check.j0 : Nat → List (List Int) → Bool → List (S61) → Int → List (List Int) → Option (Int × Int)
  | 0, _, _, _, _, _ => none
  | k + 1, x1, x23, x260000, x261000, x261001 => if x23 = true then (some (0, 1)) else (graph_Check.l0 k x1 x260000 (x260000.length : Int) 0 x261000 x261001)
def graph_Check.l0 : Nat → List (List Int) → List (S61) → Int → Int → Int → List (List Int) → Option (Int × Int)
  | 0, _, _, _, _, _, _ => none
  | k + 1, x1, x25, x26, x27, x261000, x261001 => if x27 < x26 then (if 0 ≤ x27 then (if x27 < (x25.length : Int) then (if x27 < (x1.length : Int) then ((graph_space_keys.f k x261000 x261001 (rd_L1 x1 x27)).bind fun t266 => ((graph_around.f k t266 ((rd_T61 x25 x27).f0)).bind fun t269 => ((slices_Equal_int_int.f k ((rd_T61 x25 x27).f1) t269).bind fun t272 => (if t272 = true then (graph_Check.l0 k x1 x25 x26 (wrap64 (x27 + 1)) x261000 x261001) else (some (x27, 0)))))) else (none)) else (none)) else (none)) else (some ((-1), 0))
end
def graph_Check.f (k : Nat) (a0 : Int) (l1 : List (List Int)) (l2_0 : List (S61)) : Option (Int × Int) := (graph_space_isRight.f a0 l1).bind fun t261 => (if t261 = true then ((graph_Valid.f k (l1.length : Int) l2_0).bind fun t262 => (graph_Check.j0 k l1 (!t262) l2_0 a0 l1)) else (graph_Check.j0 k l1 true l2_0 a0 l1))
theorem graph_Check.mono_l : ∀ k, (∀ y0 y1 y2 y3 y4, LeO (graph_Check.j0 k y0 y1 y2 y3 y4) (graph_Check.j0 (k + 1) y0 y1 y2 y3 y4)) ∧ (∀ y0 y1 y2 y3 y4 y5, LeO (graph_Check.l0 k y0 y1 y2 y3 y4 y5) (graph_Check.l0 (k + 1) y0 y1 y2 y3 y4 y5))
  | 0 => ⟨fun _ _ _ _ _ r h => by simp [graph_Check.j0] at h, fun _ _ _ _ _ _ r h => by simp [graph_Check.l0] at h⟩
  | k + 1 => by
    obtain ⟨ih0, ih1⟩ := graph_Check.mono_l k
    refine ⟨?_, ?_⟩
    · intro y0 y1 y2 y3 y4
      unfold graph_Check.j0
      repeat' first
      | (with_reducible exact ih0 _ _ _ _ _)
      | (with_reducible exact ih1 _ _ _ _ _ _)
      | (with_reducible exact graph_Valid.mono _ _ _)
      | (with_reducible exact graph_around.mono _ _ _)
      | (with_reducible exact graph_space_keys.mono _ _ _ _)
      | (with_reducible exact slices_Equal_int_int.mono _ _ _)
      | (with_reducible exact LeO.refl _)
      | (with_reducible exact LeO.none _)
      | (with_reducible refine LeO.ite ?_ ?_)
      | (with_reducible refine LeO.bind ?_ (fun _ => ?_))
      | exact ih0 _ _ _ _ _
      | exact ih1 _ _ _ _ _ _
      | exact graph_Valid.mono _ _ _
      | exact graph_around.mono _ _ _
      | exact graph_space_keys.mono _ _ _ _
      | exact slices_Equal_int_int.mono _ _ _
      | exact LeO.none _
      | refine LeO.ite ?_ ?_
      | refine LeO.bind ?_ (fun _ => ?_)
    · intro y0 y1 y2 y3 y4 y5
      unfold graph_Check.l0
      repeat' first
      | (with_reducible exact ih0 _ _ _ _ _)
      | (with_reducible exact ih1 _ _ _ _ _ _)
      | (with_reducible exact graph_Valid.mono _ _ _)
      | (with_reducible exact graph_around.mono _ _ _)
      | (with_reducible exact graph_space_keys.mono _ _ _ _)
      | (with_reducible exact slices_Equal_int_int.mono _ _ _)
      | (with_reducible exact LeO.refl _)
      | (with_reducible exact LeO.none _)
      | (with_reducible refine LeO.ite ?_ ?_)
      | (with_reducible refine LeO.bind ?_ (fun _ => ?_))
      | exact ih0 _ _ _ _ _
      | exact ih1 _ _ _ _ _ _
      | exact graph_Valid.mono _ _ _
      | exact graph_around.mono _ _ _
      | exact graph_space_keys.mono _ _ _ _
      | exact slices_Equal_int_int.mono _ _ _
      | exact LeO.none _
      | refine LeO.ite ?_ ?_
      | refine LeO.bind ?_ (fun _ => ?_)
def graph_Check.T7 : Bool × List (List Nat × List Nat) := (true, [([], []), ([0], [0]), ([], []), ([], []), ([], []), ([3, 4], [3, 4]), ([5], [5]), ([2, 6], [2, 6]), ([], []), ([8], [8]), ([7, 9, 7], [7, 9]), ([1, 10, 10], [1, 10]), ([11], [11])])
def graph_Check.B7 : List Nat := [0, 1, 0, 0, 0, 24, 56, 124, 0, 256, 1020, 2047, 4095]
theorem graph_Check.tab7 : rtab .any (opsOf Tryz.f20 7) = graph_Check.T7 := by kernel_rfl
theorem graph_Check.bits7 : waitsOk graph_Check.T7.2 graph_Check.B7 = true := by kernel_rfl
set_option maxHeartbeats 8000000 in
set_option maxRecDepth 100000 in
theorem graph_Check.calls (k : Nat) (a0 : Int) (A1 : Option Addr) (c1 : Nat) (l1 : List (List Int)) (A2_0 : Option Addr) (c2_0 : Nat) (l2_0 : List (S61)) (r1 : Int) (r2 : Int) (w : World) (hr1 : Kd.C (Kd.slice 3 (Kd.int .i64)) w A1 l1.length l1) (hc1 : l1.length ≤ c1) (hr2_0 : Kd.C k61 w A2_0 l2_0.length l2_0) (hc2_0 : l2_0.length ≤ c2_0) (h : graph_Check.f k a0 l1 l2_0 = some (r1, r2)) :
    Calls Tryz.prog 20 #[.int .i64 a0, .slice A1 l1.length c1, .agg #[.slice A2_0 l2_0.length c2_0]] w fun e w' => e = .returned (.tuple #[.int .i64 r1, .int .i64 r2]) ∧ Below w.heap.size w w' := by
  have hu25 := Tryz.underlying25
  have hu63 := Tryz.underlying63
  have hu61 := Tryz.underlying61
  have HR1 := Aside0.mk hr1
  have HC1 := Aside0.mk hc1
  clear hr1 hc1
  have HR2_0 := Aside0.mk hr2_0
  have HC2_0 := Aside0.mk hc2_0
  clear hr2_0 hc2_0
  have HB := Aside0.mk (Below.refl w.heap.size w)
  have H : ((graph_space_isRight.f a0 l1).bind fun t261 => (if t261 = true then ((graph_Valid.f k (l1.length : Int) l2_0).bind fun t262 => (graph_Check.j0 k l1 (!t262) l2_0 a0 l1)) else (graph_Check.j0 k l1 true l2_0 a0 l1))) = some (r1, r2) := h
  clear h
  have HC4 := Aside0.mk H
  clear H
  go_enter Tryz.func20, Tryz.ntmps20
  go_upto_region 2 with (first | ((with_reducible refine gate_dst (N := 5) rfl ?_); (try (refine gate_guard (by rfl) ?_; dsimp only)); refine box_event ?hg (N := 5) ?hd (cs := #[.slice A2_0 l2_0.length c2_0]) (t := 25) ?hr ?_; (case hd => rfl); (case hg => rfl); (case hr => first | (go_simp; done) | (go_simp; rfl)); intro gb259 hg w5 hbox hb; have n0_ := Aside0.mk (below_step (by repeat (first | (with_reducible first | exact HB.out | apply below_alloc | apply pw_below_drewN | apply below_drew1) | exact HB.out)) hb); have n1_ := Aside0.mk (hbox); have n2_ := Aside0.mk ((by rw [hg]; exact (below_size (by repeat (first | (with_reducible first | exact HB.out | apply below_alloc | apply pw_below_drewN | apply below_drew1) | exact HB.out))) : w.heap.size ≤ gb259)); have n3_ := Aside0.mk ((by rw [hg]; exact (below_size (by repeat (first | (with_reducible first | exact HB.out | apply below_alloc | apply pw_below_drewN | apply below_drew1) | exact HB.out))) : w.heap.size ≤ gb259)); clear HB; have HB := n0_; have BK259 := n1_; have GW259 := n2_; have GE259 := n3_; clear n0_ n1_ n2_ n3_; clear hb hbox hg) | ((with_reducible refine gate_dst (N := 8) rfl ?_); (try (refine gate_guard (by rfl) ?_; dsimp only)); refine box_event ?hg (N := 8) ?hd (cs := #[.int .i64 0, .slice none 0 0]) (t := 63) ?hr ?_; (case hd => rfl); (case hg => rfl); (case hr => first | (go_simp; done) | (go_simp; rfl)); intro gb260 hg w6 hbox hb; have n0_ := Aside0.mk (blk_below (g := gb259) (o := .cells #[.slice A2_0 l2_0.length c2_0] 25 (0, 0)) (by (with_reducible repeat (first | refine blk_drewN ?_ _ | refine blk_drew ?_ | refine blk_alloc ?_ _)); exact BK259.out) hb); have n1_ := Aside0.mk (below_step (by repeat (first | (with_reducible first | exact HB.out | apply below_alloc | apply pw_below_drewN | apply below_drew1 | refine below_set ?_ GE259.out) | exact HB.out)) hb); have n2_ := Aside0.mk (hbox); have n3_ := Aside0.mk ((by rw [hg]; exact (below_size (by repeat (first | (with_reducible first | exact HB.out | apply below_alloc | apply pw_below_drewN | apply below_drew1 | refine below_set ?_ GE259.out) | exact HB.out))) : w.heap.size ≤ gb260)); have n4_ := Aside0.mk ((by rw [hg]; exact (below_size (by repeat (first | (with_reducible first | exact HB.out | apply below_alloc | apply pw_below_drewN | apply below_drew1 | refine below_set ?_ GE259.out) | exact HB.out))) : w.heap.size ≤ gb260)); have n5_ := Aside0.mk ((by rw [hg]; exact Nat.ne_of_lt (blk_lt (g := gb259) (o := .cells #[.slice A2_0 l2_0.length c2_0] 25 (0, 0)) (by (with_reducible repeat (first | refine blk_drewN ?_ _ | refine blk_drew ?_ | refine blk_alloc ?_ _)); exact BK259.out)) : gb259 ≠ gb260)); have n6_ := Aside0.mk ((by rw [hg]; exact Nat.ne_of_gt (blk_lt (g := gb259) (o := .cells #[.slice A2_0 l2_0.length c2_0] 25 (0, 0)) (by (with_reducible repeat (first | refine blk_drewN ?_ _ | refine blk_drew ?_ | refine blk_alloc ?_ _)); exact BK259.out)) : gb260 ≠ gb259)); clear BK259; clear HB; have BK259 := n0_; have HB := n1_; have BK260 := n2_; have GW260 := n3_; have GE260 := n4_; have NB259_260 := n5_; have NB260_259 := n6_; clear n0_ n1_ n2_ n3_ n4_ n5_ n6_; clear hb hbox hg; have hnb7 := NB260_259.out; have hnc7 := NB259_260.out; have hcz8_0 : w6.cell? ⟨gb260, 0, none⟩ = some (.int .i64 0) := (blk_cell BK260.out 0).trans rfl; have hcz8_1 : w6.cell? ⟨gb260, 1, none⟩ = some (.slice none 0 0) := (blk_cell BK260.out 1).trans rfl; have hfz8_0 := blk_frozen BK260.out 0; have hfz8_1 := blk_frozen BK260.out 1))
  (try simp only [Act.put, List.setIfInBounds_toArray, List.set_cons_zero, List.set_cons_succ])
  go_cut [23] (fun v23 wc => ∃ (kq : Nat) (x23_3 : Bool), v23 = .bool x23_3 ∧ Aside0 (graph_Check.j0 kq l1 x23_3 l2_0 a0 l1 = some (r1, r2)) ∧ Aside0 (kq ≤ k) ∧ Aside0 (wc.heap[gb259]? = some (.cells #[(.slice A2_0 l2_0.length c2_0)] 25 (0, 0))) ∧ Aside0 (wc.heap[gb260]? = some (.cells #[.int .i64 a0, (.slice A1 l1.length c1)] 63 (0, 0))) ∧ Aside0 (Below w.heap.size w wc))
  case first =>
    have H := HC4.out
    clear HC4
    replace H := Option.bind_eq_some_iff.mp H
    obtain ⟨t261, A90, H⟩ := H
    replace H : (if t261 = true then ((graph_Valid.f k (l1.length : Int) l2_0).bind fun t262 => (graph_Check.j0 k l1 (!t262) l2_0 a0 l1)) else (graph_Check.j0 k l1 true l2_0 a0 l1)) = some (r1, r2) := H
    have A9 := Aside0.mk A90
    clear A90
    by_cases c10 : t261 = true
    · subst c10
      have H1 : ((graph_Valid.f k (l1.length : Int) l2_0).bind fun t262 => (graph_Check.j0 k l1 (!t262) l2_0 a0 l1)) = some (r1, r2) := by rw [if_pos rfl] at H; exact H
      clear H
      have H := H1
      clear H1
      replace H := Option.bind_eq_some_iff.mp H
      obtain ⟨t262, A110, H⟩ := H
      replace H : (graph_Check.j0 k l1 (!t262) l2_0 a0 l1) = some (r1, r2) := H
      have A11 := Aside0.mk A110
      clear A110
      have H' := Aside0.mk H
      clear H
      have hnb12 := NB260_259.out
      have hnc12 := NB259_260.out
      have hcz13_0 : w6.cell? ⟨gb260, 0, none⟩ = some (.int .i64 0) := (blk_cell BK260.out 0).trans rfl
      have hcz13_1 : w6.cell? ⟨gb260, 1, none⟩ = some (.slice none 0 0) := (blk_cell BK260.out 1).trans rfl
      have hfz13_0 := blk_frozen BK260.out 0
      have hfz13_1 := blk_frozen BK260.out 1
      go_wp2_with (first | ((with_reducible refine gate_callee (f := 42) rfl ?_); refine goesL_ (some 15) rfl rfl Tryz.func42 (by kernel_rfl) rfl #[.agg #[.int .i64 a0, .slice A1 l1.length c1]] rfl (by (try simp only [List.map_toArray, List.map_cons, List.map_nil]); first | done | rfl | (simp only [List.length_drop, List.length_take]; rfl)) ?_; (with_reducible refine (graph_space_isRight.calls a0 _ _ l1 true _ ?side1 ?side2 A9.out).mono ?_); (case side1 => exact Kd.C_below HR1.out (by repeat (first | (with_reducible first | exact HB.out | apply below_alloc | apply pw_below_drewN | apply below_drew1 | refine below_set ?_ GE259.out | refine below_set ?_ GE260.out) | exact HB.out))); (case side2 => exact HC1.out); rintro e w14 ⟨rfl, hb⟩; refine ⟨_, rfl, ?_⟩; have n0_ := Aside0.mk (blk_below (g := gb259) (o := .cells #[.slice A2_0 l2_0.length c2_0] 25 (0, 0)) (by (with_reducible repeat (first | refine blk_drewN ?_ _ | refine blk_drew ?_ | refine blk_alloc ?_ _)); refine blk_far ?_ NB259_260.out _; (with_reducible repeat (first | refine blk_drewN ?_ _ | refine blk_drew ?_ | refine blk_alloc ?_ _)); refine blk_far ?_ NB259_260.out _; (with_reducible repeat (first | refine blk_drewN ?_ _ | refine blk_drew ?_ | refine blk_alloc ?_ _)); exact BK259.out) hb); have n1_ := Aside0.mk (blk_below (g := gb260) (o := .cells #[.int .i64 a0, .slice A1 l1.length c1] 63 (0, 0)) (by (with_reducible repeat (first | refine blk_drewN ?_ _ | refine blk_drew ?_ | refine blk_alloc ?_ _)); refine blk_put (cs := #[.int .i64 a0, .slice none 0 0]) ?_ 1 _ rfl; (with_reducible repeat (first | refine blk_drewN ?_ _ | refine blk_drew ?_ | refine blk_alloc ?_ _)); refine blk_put (cs := #[.int .i64 0, .slice none 0 0]) ?_ 0 _ rfl; (with_reducible repeat (first | refine blk_drewN ?_ _ | refine blk_drew ?_ | refine blk_alloc ?_ _)); exact BK260.out) hb); have n2_ := Aside0.mk (below_step (by repeat (first | (with_reducible first | exact HB.out | apply below_alloc | apply pw_below_drewN | apply below_drew1 | refine below_set ?_ GE259.out | refine below_set ?_ GE260.out) | exact HB.out)) hb); clear BK259; clear BK260; clear HB; have BK259 := n0_; have BK260 := n1_; have HB := n2_; clear n0_ n1_ n2_; (try clear hb); (try clear hb2); (try clear hk); (try clear hi); have hcz15_0 : w14.cell? ⟨gb259, 0, none⟩ = some (.slice A2_0 l2_0.length c2_0) := (blk_cell BK259.out 0).trans rfl; have hfz15_0 := blk_frozen BK259.out 0) | (go_at_call 24; (with_reducible refine (graph_Valid.calls k (l1.length : Int) _ _ l2_0 t262 _ ?side1 ?side2 A11.out).mono ?_); (case side1 => repeat (first | exact (Kd.C_below HR2_0.out HB.out) | (with_reducible refine Kd.C_alloc ?_ _) | (with_reducible refine Kd.C_drewN ?_ _) | (with_reducible refine Kd.C_drew ?_))); (case side2 => exact HC2_0.out); rintro e w16 ⟨rfl, hb⟩; have n0_ := Aside0.mk (blk_below (g := gb259) (o := .cells #[.slice A2_0 l2_0.length c2_0] 25 (0, 0)) (by (with_reducible repeat (first | refine blk_drewN ?_ _ | refine blk_drew ?_ | refine blk_alloc ?_ _)); exact BK259.out) hb); have n1_ := Aside0.mk (blk_below (g := gb260) (o := .cells #[.int .i64 a0, .slice A1 l1.length c1] 63 (0, 0)) (by (with_reducible repeat (first | refine blk_drewN ?_ _ | refine blk_drew ?_ | refine blk_alloc ?_ _)); exact BK260.out) hb); have n2_ := Aside0.mk (below_step (by repeat (first | (with_reducible first | exact HB.out | apply below_alloc | apply pw_below_drewN | apply below_drew1 | refine below_set ?_ GE259.out | refine below_set ?_ GE260.out) | exact HB.out)) hb); clear BK259; clear BK260; clear HB; have BK259 := n0_; have BK260 := n1_; have HB := n2_; clear n0_ n1_ n2_; (try clear hb); (try clear hb2); (try clear hk); (try clear hi)))
      go_meet
      case rel => exact ⟨_, (!t262), (by first | rfl | (simp; done) | (simp [*]; done)), H', ⟨by first | omega | exact Nat.le_refl _⟩, ⟨by (with_reducible repeat (first | refine blk_drewN ?_ _ | refine blk_drew ?_ | refine blk_alloc ?_ _)); exact BK259.out⟩, ⟨by (with_reducible repeat (first | refine blk_drewN ?_ _ | refine blk_drew ?_ | refine blk_alloc ?_ _)); exact BK260.out⟩, ⟨by repeat (first | (with_reducible first | exact HB.out | apply below_alloc | apply pw_below_drewN | apply below_drew1 | refine below_set ?_ GE259.out | refine below_set ?_ GE260.out) | exact HB.out)⟩⟩
    · replace c10 := Bool.eq_false_iff.mpr c10
      subst c10
      have H1 : (graph_Check.j0 k l1 true l2_0 a0 l1) = some (r1, r2) := by rw [if_neg (show ¬ (false = true) by decide)] at H; exact H
      clear H
      have H := H1
      clear H1
      have H' := Aside0.mk H
      clear H
      have hnb17 := NB260_259.out
      have hnc17 := NB259_260.out
      have hcz18_0 : w6.cell? ⟨gb260, 0, none⟩ = some (.int .i64 0) := (blk_cell BK260.out 0).trans rfl
      have hcz18_1 : w6.cell? ⟨gb260, 1, none⟩ = some (.slice none 0 0) := (blk_cell BK260.out 1).trans rfl
      have hfz18_0 := blk_frozen BK260.out 0
      have hfz18_1 := blk_frozen BK260.out 1
      go_wp2_with (first | ((with_reducible refine gate_callee (f := 42) rfl ?_); refine goesL_ (some 15) rfl rfl Tryz.func42 (by kernel_rfl) rfl #[.agg #[.int .i64 a0, .slice A1 l1.length c1]] rfl (by (try simp only [List.map_toArray, List.map_cons, List.map_nil]); first | done | rfl | (simp only [List.length_drop, List.length_take]; rfl)) ?_; (with_reducible refine (graph_space_isRight.calls a0 _ _ l1 false _ ?side1 ?side2 A9.out).mono ?_); (case side1 => exact Kd.C_below HR1.out (by repeat (first | (with_reducible first | exact HB.out | apply below_alloc | apply pw_below_drewN | apply below_drew1 | refine below_set ?_ GE259.out | refine below_set ?_ GE260.out) | exact HB.out))); (case side2 => exact HC1.out); rintro e w19 ⟨rfl, hb⟩; refine ⟨_, rfl, ?_⟩; have n0_ := Aside0.mk (blk_below (g := gb259) (o := .cells #[.slice A2_0 l2_0.length c2_0] 25 (0, 0)) (by (with_reducible repeat (first | refine blk_drewN ?_ _ | refine blk_drew ?_ | refine blk_alloc ?_ _)); refine blk_far ?_ NB259_260.out _; (with_reducible repeat (first | refine blk_drewN ?_ _ | refine blk_drew ?_ | refine blk_alloc ?_ _)); refine blk_far ?_ NB259_260.out _; (with_reducible repeat (first | refine blk_drewN ?_ _ | refine blk_drew ?_ | refine blk_alloc ?_ _)); exact BK259.out) hb); have n1_ := Aside0.mk (blk_below (g := gb260) (o := .cells #[.int .i64 a0, .slice A1 l1.length c1] 63 (0, 0)) (by (with_reducible repeat (first | refine blk_drewN ?_ _ | refine blk_drew ?_ | refine blk_alloc ?_ _)); refine blk_put (cs := #[.int .i64 a0, .slice none 0 0]) ?_ 1 _ rfl; (with_reducible repeat (first | refine blk_drewN ?_ _ | refine blk_drew ?_ | refine blk_alloc ?_ _)); refine blk_put (cs := #[.int .i64 0, .slice none 0 0]) ?_ 0 _ rfl; (with_reducible repeat (first | refine blk_drewN ?_ _ | refine blk_drew ?_ | refine blk_alloc ?_ _)); exact BK260.out) hb); have n2_ := Aside0.mk (below_step (by repeat (first | (with_reducible first | exact HB.out | apply below_alloc | apply pw_below_drewN | apply below_drew1 | refine below_set ?_ GE259.out | refine below_set ?_ GE260.out) | exact HB.out)) hb); clear BK259; clear BK260; clear HB; have BK259 := n0_; have BK260 := n1_; have HB := n2_; clear n0_ n1_ n2_; (try clear hb); (try clear hb2); (try clear hk); (try clear hi)))
      go_meet
      case rel => exact ⟨_, (true), (by first | rfl | (simp; done) | (simp [*]; done)), H', ⟨by first | omega | exact Nat.le_refl _⟩, ⟨by (with_reducible repeat (first | refine blk_drewN ?_ _ | refine blk_drew ?_ | refine blk_alloc ?_ _)); exact BK259.out⟩, ⟨by (with_reducible repeat (first | refine blk_drewN ?_ _ | refine blk_drew ?_ | refine blk_alloc ?_ _)); exact BK260.out⟩, ⟨by repeat (first | (with_reducible first | exact HB.out | apply below_alloc | apply pw_below_drewN | apply below_drew1 | refine below_set ?_ GE259.out | refine below_set ?_ GE260.out) | exact HB.out)⟩⟩
  case rest =>
    clear HC4
    try clear c1
    try clear c2
    try clear p2
    try clear c4
    try clear c7
    try clear c10
    try clear c12
    try clear c17
    try clear hcz13_0
    try clear hcz13_1
    try clear hcz15_0
    try clear hcz18_0
    try clear hcz18_1
    try clear hcz8_0
    try clear hcz8_1
    try clear hfz13_0
    try clear hfz13_1
    try clear hfz15_0
    try clear hfz18_0
    try clear hfz18_1
    try clear hfz8_0
    try clear hfz8_1
    obtain ⟨kq, x23_3, rfl, HA, HJ3, BK259, BK260, HB⟩ := hcut
    cases kq with
    | zero => exact absurd HA.out (by simp [graph_Check.j0])
    | succ kj3 =>
      have H := HA.out
      clear HA
      simp only [graph_Check.j0] at H
      by_cases c20 : x23_3 = true
      · subst c20
        have H1 : (some (0, 1)) = some (r1, r2) := by rw [if_pos rfl] at H; exact H
        clear H
        have H := H1
        clear H1
        simp only [Option.some.injEq, Prod.mk.injEq] at H
        obtain ⟨rfl, rfl⟩ := H
        go_wp2
        go_ret2
        exact ⟨by first | rfl | (simp [errW_none, errW_some] <;> rfl) | (simp [*, errW_none, errW_some] <;> rfl), by repeat (first | (with_reducible first | exact HB.out | apply below_alloc | apply pw_below_drewN | apply below_drew1 | refine below_set ?_ GE259.out | refine below_set ?_ GE260.out) | exact HB.out)⟩
      · replace c20 := Bool.eq_false_iff.mpr c20
        subst c20
        have H1 : (graph_Check.l0 kj3 l1 l2_0 (l2_0.length : Int) 0 a0 l1) = some (r1, r2) := by rw [if_neg (show ¬ (false = true) by decide)] at H; exact H
        clear H
        have H := H1
        clear H1
        have H' := Aside0.mk H
        clear H
        have hnb21 := NB259_260.out
        have hnc21 := NB260_259.out
        have hcz22_0 : wc.cell? ⟨gb259, 0, none⟩ = some (.slice A2_0 l2_0.length c2_0) := (blk_cell BK259.out 0).trans rfl
        have hfz22_0 := blk_frozen BK259.out 0
        go_wp2
        go_loopg [27] kj3 (fun kq v27 w' => ∃ (x27_2 : Int), v27 = .int .i64 x27_2 ∧ Aside0 (graph_Check.l0 kq l1 l2_0 (l2_0.length : Int) x27_2 a0 l1 = some (r1, r2)) ∧ Aside0 (kq ≤ kj3) ∧ Aside0 (w'.heap[gb259]? = some (.cells #[(.slice A2_0 l2_0.length c2_0)] 25 (0, 0))) ∧ Aside0 (w'.heap[gb260]? = some (.cells #[.int .i64 a0, (.slice A1 l1.length c1)] 63 (0, 0))) ∧ Aside0 (Below w.heap.size w w'))
        case atStart => exact ⟨(0), (by first | rfl | (simp; done) | (simp [*]; done)), H', ⟨Nat.le_refl _⟩, ⟨by (with_reducible repeat (first | refine blk_drewN ?_ _ | refine blk_drew ?_ | refine blk_alloc ?_ _)); exact BK259.out⟩, ⟨by (with_reducible repeat (first | refine blk_drewN ?_ _ | refine blk_drew ?_ | refine blk_alloc ?_ _)); exact BK260.out⟩, ⟨by repeat (first | (with_reducible first | exact HB.out | apply below_alloc | apply pw_below_drewN | apply below_drew1 | refine below_set ?_ GE259.out | refine below_set ?_ GE260.out) | exact HB.out)⟩⟩
        case round =>
          clear H'
          try clear c1
          try clear c2
          try clear p2
          try clear c4
          try clear c7
          try clear c10
          try clear c12
          try clear c17
          try clear c20
          try clear c21
          try clear hcz13_0
          try clear hcz13_1
          try clear hcz15_0
          try clear hcz18_0
          try clear hcz18_1
          try clear hcz22_0
          try clear hcz8_0
          try clear hcz8_1
          try clear hfz13_0
          try clear hfz13_1
          try clear hfz15_0
          try clear hfz18_0
          try clear hfz18_1
          try clear hfz22_0
          try clear hfz8_0
          try clear hfz8_1
          try clear p2
          obtain ⟨x27_2, rfl, HA, HK2, BK259, BK260, HB⟩ := hrel
          cases gk with
          | zero => exact absurd HA.out (by simp [graph_Check.l0])
          | succ k2 =>
            have H := HA.out
            clear HA
            simp only [graph_Check.l0] at H
            by_cases c23 : x27_2 < (l2_0.length : Int)
            · rw [if_pos c23] at H
              have c23b0 : decide (x27_2 < (l2_0.length : Int)) = true := decide_eq_true c23
              clear c23
              by_cases c24 : 0 ≤ x27_2
              · rw [if_pos c24] at H
                have c24b0 : decide (0 ≤ x27_2) = true := decide_eq_true c24
                clear c24
                by_cases c25 : x27_2 < (l2_0.length : Int)
                · rw [if_pos c25] at H
                  have c25b0 : decide (x27_2 < (l2_0.length : Int)) = true := decide_eq_true c25
                  clear c25
                  by_cases c26 : x27_2 < (l1.length : Int)
                  · rw [if_pos c26] at H
                    have c26b0 : decide (x27_2 < (l1.length : Int)) = true := decide_eq_true c26
                    clear c26
                    replace H := Option.bind_eq_some_iff.mp H
                    obtain ⟨t266, A270, H⟩ := H
                    replace H : ((graph_around.f k2 t266 ((rd_T61 l2_0 x27_2).f0)).bind fun t269 => ((slices_Equal_int_int.f k2 ((rd_T61 l2_0 x27_2).f1) t269).bind fun t272 => (if t272 = true then (graph_Check.l0 k2 l1 l2_0 (l2_0.length : Int) (wrap64 (x27_2 + 1)) a0 l1) else (some (x27_2, 0))))) = some (r1, r2) := H
                    have A27 := Aside0.mk A270
                    clear A270
                    replace H := Option.bind_eq_some_iff.mp H
                    obtain ⟨t269, A280, H⟩ := H
                    replace H : ((slices_Equal_int_int.f k2 ((rd_T61 l2_0 x27_2).f1) t269).bind fun t272 => (if t272 = true then (graph_Check.l0 k2 l1 l2_0 (l2_0.length : Int) (wrap64 (x27_2 + 1)) a0 l1) else (some (x27_2, 0)))) = some (r1, r2) := H
                    have A28 := Aside0.mk A280
                    clear A280
                    replace H := Option.bind_eq_some_iff.mp H
                    obtain ⟨t272, A290, H⟩ := H
                    replace H : (if t272 = true then (graph_Check.l0 k2 l1 l2_0 (l2_0.length : Int) (wrap64 (x27_2 + 1)) a0 l1) else (some (x27_2, 0))) = some (r1, r2) := H
                    have A29 := Aside0.mk A290
                    clear A290
                    by_cases c30 : t272 = true
                    · subst c30
                      have H1 : (graph_Check.l0 k2 l1 l2_0 (l2_0.length : Int) (wrap64 (x27_2 + 1)) a0 l1) = some (r1, r2) := by rw [if_pos rfl] at H; exact H
                      clear H
                      have H := H1
                      clear H1
                      have H' := Aside0.mk H
                      clear H
                      have p263 : 0 ≤ (x27_2 : Int) := of_decide_eq_true (by first | (with_reducible assumption) | assumption)
                      have q263 : x27_2 < (l2_0.length : Int) := of_decide_eq_true (by first | (with_reducible assumption) | assumption)
                      obtain ⟨ad263, A263_1, c263_1, e263, hx263_0, hx263_1, hl263_1, hi263_1⟩ := at_T61 HR2_0.out x27_2 p263 q263
                      cases e263
                      replace hx263_0 := (HB.out.cell (World.block_lt_of_cell? w _ hx263_0)).trans hx263_0
                      replace hx263_1 := (HB.out.cell (World.block_lt_of_cell? w _ hx263_1)).trans hx263_1
                      have HR263_1 := Aside0.mk hi263_1
                      have HC263_1 := Aside0.mk hl263_1
                      clear hi263_1 hl263_1
                      replace p263 := eq_true p263
                      replace q263 := eq_true q263
                      try go_wp2_with (first | ((with_reducible refine gate_dst (N := 10) rfl ?_); (try (refine gate_guard (by rfl) ?_; dsimp only)); refine box_event ?hg (N := 10) ?hd (cs := #[.int .i64 0, .slice none 0 0]) (t := 61) ?hr ?_; (case hd => rfl); (case hg => rfl); (case hr => first | (go_simp; done) | (go_simp; rfl)); intro gb264 hg w31 hbox hb; have n0_ := Aside0.mk (blk_below (g := gb259) (o := .cells #[.slice (some ad263) l2_0.length c2_0] 25 (0, 0)) (by (with_reducible repeat (first | refine blk_drewN ?_ _ | refine blk_drew ?_ | refine blk_alloc ?_ _)); exact BK259.out) hb); have n1_ := Aside0.mk (blk_below (g := gb260) (o := .cells #[.int .i64 a0, .slice A1 l1.length c1] 63 (0, 0)) (by (with_reducible repeat (first | refine blk_drewN ?_ _ | refine blk_drew ?_ | refine blk_alloc ?_ _)); exact BK260.out) hb); have n2_ := Aside0.mk (below_step (by repeat (first | (with_reducible first | exact HB.out | apply below_alloc | apply pw_below_drewN | apply below_drew1 | refine below_set ?_ GE259.out | refine below_set ?_ GE260.out) | exact HB.out)) hb); have n3_ := Aside0.mk (hbox); have n4_ := Aside0.mk ((by rw [hg]; exact (below_size (by repeat (first | (with_reducible first | exact HB.out | apply below_alloc | apply pw_below_drewN | apply below_drew1 | refine below_set ?_ GE259.out | refine below_set ?_ GE260.out) | exact HB.out))) : w.heap.size ≤ gb264)); have n5_ := Aside0.mk ((by rw [hg]; exact (below_size (by repeat (first | (with_reducible first | exact HB.out | apply below_alloc | apply pw_below_drewN | apply below_drew1 | refine below_set ?_ GE259.out | refine below_set ?_ GE260.out) | exact HB.out))) : w.heap.size ≤ gb264)); have n6_ := Aside0.mk ((by rw [hg]; exact Nat.ne_of_lt (blk_lt (g := gb259) (o := .cells #[.slice (some ad263) l2_0.length c2_0] 25 (0, 0)) (by (with_reducible repeat (first | refine blk_drewN ?_ _ | refine blk_drew ?_ | refine blk_alloc ?_ _)); exact BK259.out)) : gb259 ≠ gb264)); have n7_ := Aside0.mk ((by rw [hg]; exact Nat.ne_of_gt (blk_lt (g := gb259) (o := .cells #[.slice (some ad263) l2_0.length c2_0] 25 (0, 0)) (by (with_reducible repeat (first | refine blk_drewN ?_ _ | refine blk_drew ?_ | refine blk_alloc ?_ _)); exact BK259.out)) : gb264 ≠ gb259)); have n8_ := Aside0.mk ((by rw [hg]; exact Nat.ne_of_lt (blk_lt (g := gb260) (o := .cells #[.int .i64 a0, .slice A1 l1.length c1] 63 (0, 0)) (by (with_reducible repeat (first | refine blk_drewN ?_ _ | refine blk_drew ?_ | refine blk_alloc ?_ _)); exact BK260.out)) : gb260 ≠ gb264)); have n9_ := Aside0.mk ((by rw [hg]; exact Nat.ne_of_gt (blk_lt (g := gb260) (o := .cells #[.int .i64 a0, .slice A1 l1.length c1] 63 (0, 0)) (by (with_reducible repeat (first | refine blk_drewN ?_ _ | refine blk_drew ?_ | refine blk_alloc ?_ _)); exact BK260.out)) : gb264 ≠ gb260)); clear BK259; clear BK260; clear HB; have BK259 := n0_; have BK260 := n1_; have HB := n2_; have BK264 := n3_; have GW264 := n4_; have GE264 := n5_; have NB259_264 := n6_; have NB264_259 := n7_; have NB260_264 := n8_; have NB264_260 := n9_; clear n0_ n1_ n2_ n3_ n4_ n5_ n6_ n7_ n8_ n9_; clear hb hbox hg; have hnb32 := NB264_259.out; have hnc32 := NB259_264.out; have hnb33 := NB264_260.out; have hnc33 := NB260_264.out; have hcz34_0 : w31.cell? ⟨gb264, 0, none⟩ = some (.int .i64 0) := (blk_cell BK264.out 0).trans rfl; have hcz34_1 : w31.cell? ⟨gb264, 1, none⟩ = some (.slice none 0 0) := (blk_cell BK264.out 1).trans rfl; have hfz34_0 := blk_frozen BK264.out 0; have hfz34_1 := blk_frozen BK264.out 1))
                      have n0_ : Aside0 (((w31.setCell ⟨gb264, 0, none⟩ (.int .i64 ((rd_T61 l2_0 x27_2).f0))).setCell ⟨gb264, 1, none⟩ (.slice A263_1 ((rd_T61 l2_0 x27_2).f1).length c263_1)).heap[gb259]? = some (.cells #[.slice (some ad263) l2_0.length c2_0] 25 (0, 0))) := ⟨by (with_reducible repeat (first | refine blk_drewN ?_ _ | refine blk_drew ?_ | refine blk_alloc ?_ _)); refine blk_far ?_ NB259_264.out _; (with_reducible repeat (first | refine blk_drewN ?_ _ | refine blk_drew ?_ | refine blk_alloc ?_ _)); refine blk_far ?_ NB259_264.out _; (with_reducible repeat (first | refine blk_drewN ?_ _ | refine blk_drew ?_ | refine blk_alloc ?_ _)); exact BK259.out⟩
                      have n1_ : Aside0 (((w31.setCell ⟨gb264, 0, none⟩ (.int .i64 ((rd_T61 l2_0 x27_2).f0))).setCell ⟨gb264, 1, none⟩ (.slice A263_1 ((rd_T61 l2_0 x27_2).f1).length c263_1)).heap[gb260]? = some (.cells #[.int .i64 a0, .slice A1 l1.length c1] 63 (0, 0))) := ⟨by (with_reducible repeat (first | refine blk_drewN ?_ _ | refine blk_drew ?_ | refine blk_alloc ?_ _)); refine blk_far ?_ NB260_264.out _; (with_reducible repeat (first | refine blk_drewN ?_ _ | refine blk_drew ?_ | refine blk_alloc ?_ _)); refine blk_far ?_ NB260_264.out _; (with_reducible repeat (first | refine blk_drewN ?_ _ | refine blk_drew ?_ | refine blk_alloc ?_ _)); exact BK260.out⟩
                      have n2_ : Aside0 (((w31.setCell ⟨gb264, 0, none⟩ (.int .i64 ((rd_T61 l2_0 x27_2).f0))).setCell ⟨gb264, 1, none⟩ (.slice A263_1 ((rd_T61 l2_0 x27_2).f1).length c263_1)).heap[gb264]? = some (.cells #[.int .i64 ((rd_T61 l2_0 x27_2).f0), .slice A263_1 ((rd_T61 l2_0 x27_2).f1).length c263_1] 61 (0, 0))) := ⟨by (with_reducible repeat (first | refine blk_drewN ?_ _ | refine blk_drew ?_ | refine blk_alloc ?_ _)); refine blk_put (cs := #[.int .i64 ((rd_T61 l2_0 x27_2).f0), .slice none 0 0]) ?_ 1 _ rfl; (with_reducible repeat (first | refine blk_drewN ?_ _ | refine blk_drew ?_ | refine blk_alloc ?_ _)); refine blk_put (cs := #[.int .i64 0, .slice none 0 0]) ?_ 0 _ rfl; (with_reducible repeat (first | refine blk_drewN ?_ _ | refine blk_drew ?_ | refine blk_alloc ?_ _)); exact BK264.out⟩
                      have n3_ : Aside0 (Below w.heap.size w ((w31.setCell ⟨gb264, 0, none⟩ (.int .i64 ((rd_T61 l2_0 x27_2).f0))).setCell ⟨gb264, 1, none⟩ (.slice A263_1 ((rd_T61 l2_0 x27_2).f1).length c263_1))) := ⟨by repeat (first | (with_reducible first | exact HB.out | apply below_alloc | apply pw_below_drewN | apply below_drew1 | refine below_set ?_ GE259.out | refine below_set ?_ GE260.out | refine below_set ?_ GE264.out) | exact HB.out)⟩
                      (try clear BK259)
                      (try clear BK260)
                      (try clear BK264)
                      (try clear HB)
                      generalize ((w31.setCell ⟨gb264, 0, none⟩ (.int .i64 ((rd_T61 l2_0 x27_2).f0))).setCell ⟨gb264, 1, none⟩ (.slice A263_1 ((rd_T61 l2_0 x27_2).f1).length c263_1)) = w35 at n0_ n1_ n2_ n3_ ⊢
                      have BK259 := n0_
                      have BK260 := n1_
                      have BK264 := n2_
                      have HB := n3_
                      clear n0_ n1_ n2_ n3_
                      have n0_ := Aside0.mk (blk_drew BK259.out)
                      have n1_ := Aside0.mk (blk_drew BK260.out)
                      have n2_ := Aside0.mk (blk_drew BK264.out)
                      have n3_ := Aside0.mk (below_drew1 HB.out)
                      clear BK259
                      clear BK260
                      clear BK264
                      clear HB
                      have BK259 := n0_
                      have BK260 := n1_
                      have BK264 := n2_
                      have HB := n3_
                      clear n0_ n1_ n2_ n3_
                      have p265 : 0 ≤ (x27_2 : Int) := of_decide_eq_true (by first | (with_reducible assumption) | assumption)
                      have q265 : x27_2 < (l1.length : Int) := of_decide_eq_true (by first | (with_reducible assumption) | assumption)
                      obtain ⟨ad265, A265_0, c265_0, e265, hx265_0, hl265_0, hi265_0⟩ := at_L1 HR1.out x27_2 p265 q265
                      have hw265_0 := hx265_0
                      cases e265
                      replace hx265_0 := (HB.out.cell (World.block_lt_of_cell? w _ hx265_0)).trans hx265_0
                      have HR265_0 := Aside0.mk hi265_0
                      have HC265_0 := Aside0.mk hl265_0
                      clear hi265_0 hl265_0
                      replace p265 := eq_true p265
                      replace q265 := eq_true q265
                      refine start_ (n := 13) (S := fun w' => w'.cell? ⟨gb264, 0, none⟩ = some (.int .i64 ((rd_T61 l2_0 x27_2).f0)) ∧ w'.cell? ⟨gb264, 1, none⟩ = some (.slice A263_1 ((rd_T61 l2_0 x27_2).f1).length c263_1) ∧ w'.cell? ⟨gb260, 0, none⟩ = some (.int .i64 a0) ∧ w'.cell? ⟨gb260, 1, none⟩ = some (.slice (some ad265) l1.length c1) ∧ w'.cell? (ad265.add (x27_2).toNat) = some (.slice A265_0 (rd_L1 l1 x27_2).length c265_0)) (ds := []) #[false, false, false, false, false, false, false, false, false, false, false, false, false] (by kernel_rfl) rfl rfl ⟨(blk_cell BK264.out 0).trans rfl, (blk_cell BK264.out 1).trans rfl, (blk_cell BK260.out 0).trans rfl, (blk_cell BK260.out 1).trans rfl, ((HB.out.cell (World.block_lt_of_cell? w _ hw265_0)).trans hw265_0)⟩ (fun hHeld => ?_); refine with_tabW graph_Check.tab7 graph_Check.bits7 (fun HT_ HW_ => ?_)
                      generalize w35.drew = w36 at BK259 BK260 BK264 HB HR265_0 hx265_0 hHeld ⊢
                      refine pure_ (i := 0) (N := some 32) (v := ?_) (a' := ?_) #[true, false, false, false, false, false, false, false, false, false, false, false, false] rfl rfl (any_of HT_.out (by kernel_rfl)) (fun _ _ _ h => h) (Or.inl ⟨by rfl, ?_⟩) ?_ ?_
                      rotate_left
                      · intro w'
                        go_simp
                        with_reducible rfl
                      rotate_left
                      · simp only [Act.put, List.setIfInBounds_toArray, List.set_cons_zero, List.set_cons_succ, i64_w, i32_w]
                        rfl
                      refine pure_ (i := 3) (N := some 35) (v := ?_) (a' := ?_) #[true, false, false, true, false, false, false, false, false, false, false, false, false] rfl rfl (any_of HT_.out (by kernel_rfl)) (fun _ _ _ h => h) (Or.inl ⟨by rfl, ?_⟩) ?_ ?_
                      rotate_left
                      · intro w'
                        go_simp
                        with_reducible rfl
                      rotate_left
                      · simp only [Act.put, List.setIfInBounds_toArray, List.set_cons_zero, List.set_cons_succ, i64_w, i32_w]
                        rfl
                      refine pure_ (i := 4) (N := some 36) (v := ?_) (a' := ?_) #[true, false, false, true, true, false, false, false, false, false, false, false, false] rfl rfl (any_of HT_.out (by kernel_rfl)) (fun _ _ _ h => h) (Or.inl ⟨by rfl, ?_⟩) ?_ ?_
                      rotate_left
                      · intro w'
                        go_simp
                        with_reducible rfl
                      rotate_left
                      · simp only [Act.put, List.setIfInBounds_toArray, List.set_cons_zero, List.set_cons_succ, i64_w, i32_w]
                        rfl
                      refine pure_ (i := 5) (N := some 37) (v := ?_) (a' := ?_) #[true, false, false, true, true, true, false, false, false, false, false, false, false] rfl rfl (any_of HT_.out (by kernel_rfl)) (fun _ _ _ h => h) (Or.inl ⟨by rfl, ?_⟩) ?_ ?_
                      rotate_left
                      · intro w'
                        go_simp
                        with_reducible rfl
                      rotate_left
                      · simp only [Act.put, List.setIfInBounds_toArray, List.set_cons_zero, List.set_cons_succ, i64_w, i32_w]
                        rfl
                      refine pure_ (i := 8) (N := some 40) (v := ?_) (a' := ?_) #[true, false, false, true, true, true, false, false, true, false, false, false, false] rfl rfl (any_of HT_.out (by kernel_rfl)) (fun _ _ _ h => h) (Or.inl ⟨by rfl, ?_⟩) ?_ ?_
                      rotate_left
                      · intro w'
                        go_simp
                        with_reducible rfl
                      rotate_left
                      · simp only [Act.put, List.setIfInBounds_toArray, List.set_cons_zero, List.set_cons_succ, i64_w, i32_w]
                        rfl
                      refine take_ (i := 1) (N := some 33) (v := ?_) (a' := ?_) #[true, true, false, true, true, true, false, false, true, false, false, false, false] rfl rfl (take_ofW HT_.out HW_.out (by kernel_rfl)) (fun _ _ _ h => h) (Or.inl ⟨by rfl, ?_⟩) hHeld ?_ ?_
                      rotate_left
                      · rintro w' ⟨s0, s1, s2, s3, s4⟩
                        go_simp
                        with_reducible rfl
                      rotate_left
                      · simp only [Act.put, List.setIfInBounds_toArray, List.set_cons_zero, List.set_cons_succ, i64_w, i32_w]
                        rfl
                      refine take_ (i := 2) (N := some 34) (v := ?_) (a' := ?_) #[true, true, true, true, true, true, false, false, true, false, false, false, false] rfl rfl (take_ofW HT_.out HW_.out (by kernel_rfl)) (fun _ _ _ h => h) (Or.inl ⟨by rfl, ?_⟩) hHeld ?_ ?_
                      rotate_left
                      · rintro w' ⟨s0, s1, s2, s3, s4⟩
                        go_simp
                        with_reducible rfl
                      rotate_left
                      · simp only [Act.put, List.setIfInBounds_toArray, List.set_cons_zero, List.set_cons_succ, i64_w, i32_w]
                        rfl
                      refine take_ (i := 6) (N := some 38) (v := ?_) (a' := ?_) #[true, true, true, true, true, true, true, false, true, false, false, false, false] rfl rfl (take_ofW HT_.out HW_.out (by kernel_rfl)) (fun _ _ _ h => h) (Or.inl ⟨by rfl, ?_⟩) hHeld ?_ ?_
                      rotate_left
                      · rintro w' ⟨s0, s1, s2, s3, s4⟩
                        go_simp
                        with_reducible rfl
                      rotate_left
                      · simp only [Act.put, List.setIfInBounds_toArray, List.set_cons_zero, List.set_cons_succ, i64_w, i32_w]
                        rfl
                      refine take_ (i := 9) (N := some 41) (v := ?_) (a' := ?_) #[true, true, true, true, true, true, true, false, true, true, false, false, false] rfl rfl (take_ofW HT_.out HW_.out (by kernel_rfl)) (fun _ _ _ h => h) (Or.inl ⟨by rfl, ?_⟩) hHeld ?_ ?_
                      rotate_left
                      · rintro w' ⟨s0, s1, s2, s3, s4⟩
                        go_simp
                        with_reducible rfl
                      rotate_left
                      · simp only [Act.put, List.setIfInBounds_toArray, List.set_cons_zero, List.set_cons_succ, i64_w, i32_w]
                        rfl
                      refine one_ (i := 7) (N := some 39) #[true, true, true, true, true, true, true, true, true, true, false, false, false] rfl rfl (one_of HT_.out (by kernel_rfl)) (by decide) (fun K hK => ?_)
                      refine goes_ Tryz.func43 (by kernel_rfl) rfl #[.agg #[.int .i64 a0, .slice (some ad265) l1.length c1], .slice A265_0 (rd_L1 l1 x27_2).length c265_0] (by rfl) rfl rfl (by (try simp only [List.map_toArray, List.map_cons, List.map_nil]); first | done | rfl | (simp only [List.length_drop, List.length_take]; rfl)) ?_
                      with_reducible refine (graph_space_keys.calls k2 a0 _ _ l1 _ _ (rd_L1 l1 x27_2) t266 _ ?side1 ?side2 ?side3 ?side4 A27.out).mono ?_
                      (case side1 => repeat (first | exact (Kd.C_below HR1.out HB.out) | (with_reducible refine Kd.C_alloc ?_ _) | (with_reducible refine Kd.C_drewN ?_ _) | (with_reducible refine Kd.C_drew ?_)))
                      (case side2 => exact HC1.out)
                      (case side3 => repeat (first | exact (Kd.C_below HR265_0.out HB.out) | (with_reducible refine Kd.C_alloc ?_ _) | (with_reducible refine Kd.C_drewN ?_ _) | (with_reducible refine Kd.C_drew ?_)))
                      (case side4 => exact HC265_0.out)
                      rintro e w37 ⟨v267, rfl, ho0, hb⟩
                      refine ⟨_, rfl, ?_⟩
                      have n0_ := Aside0.mk (Kd.R_lower ho0 (below_size (by repeat (first | (with_reducible first | exact HB.out | apply below_alloc | apply pw_below_drewN | apply below_drew1 | refine below_set ?_ GE259.out | refine below_set ?_ GE260.out | refine below_set ?_ GE264.out) | exact HB.out))))
                      have n1_ := Aside0.mk (blk_below (g := gb259) (o := .cells #[.slice (some ad263) l2_0.length c2_0] 25 (0, 0)) (by (with_reducible repeat (first | refine blk_drewN ?_ _ | refine blk_drew ?_ | refine blk_alloc ?_ _)); exact BK259.out) hb)
                      have n2_ := Aside0.mk (blk_below (g := gb260) (o := .cells #[.int .i64 a0, .slice (some ad265) l1.length c1] 63 (0, 0)) (by (with_reducible repeat (first | refine blk_drewN ?_ _ | refine blk_drew ?_ | refine blk_alloc ?_ _)); exact BK260.out) hb)
                      have n3_ := Aside0.mk (blk_below (g := gb264) (o := .cells #[.int .i64 ((rd_T61 l2_0 x27_2).f0), .slice A263_1 ((rd_T61 l2_0 x27_2).f1).length c263_1] 61 (0, 0)) (by (with_reducible repeat (first | refine blk_drewN ?_ _ | refine blk_drew ?_ | refine blk_alloc ?_ _)); exact BK264.out) hb)
                      have n4_ := Aside0.mk (below_step (by repeat (first | (with_reducible first | exact HB.out | apply below_alloc | apply pw_below_drewN | apply below_drew1 | refine below_set ?_ GE259.out | refine below_set ?_ GE260.out | refine below_set ?_ GE264.out) | exact HB.out)) hb)
                      clear BK259
                      clear BK260
                      clear BK264
                      clear HB
                      have HO268 := n0_
                      have BK259 := n1_
                      have BK260 := n2_
                      have BK264 := n3_
                      have HB := n4_
                      clear n0_ n1_ n2_ n3_ n4_
                      (try clear hb)
                      (try clear hb2)
                      (try clear hk)
                      (try clear hi)
                      (try clear ho0)
                      obtain ⟨Ao38, co38, eo38⟩ := Kd.R_slice HO268.out
                      (first | subst eo38 | (injection eo38 with f1_ f2_ f3_; have f4_ := f1_.symm; have f5_ := f3_.symm; clear f1_ f2_ f3_; subst f4_; subst f5_))
                      refine hK.out _ _ ⟨(blk_cell BK264.out 0).trans rfl, (blk_cell BK264.out 1).trans rfl, (blk_cell BK260.out 0).trans rfl, (blk_cell BK260.out 1).trans rfl, ((HB.out.cell (World.block_lt_of_cell? w _ hw265_0)).trans hw265_0)⟩ (fun hHeld => ?_)
                      clear hK K
                      refine norm_ (a' := ?_) ?_ ?_
                      rotate_left
                      · show Act.put _ (some 39) _ = _
                        simp only [Act.put, List.setIfInBounds_toArray, List.set_cons_zero, List.set_cons_succ, i64_w, i32_w]
                        rfl
                      refine one_ (i := 10) (N := some 42) #[true, true, true, true, true, true, true, true, true, true, true, false, false] rfl rfl (one_of HT_.out (by kernel_rfl)) (by decide) (fun K hK => ?_)
                      refine goes_ Tryz.func46 (by kernel_rfl) rfl #[.slice Ao38 t266.length co38, .int .i64 ((rd_T61 l2_0 x27_2).f0)] (by rfl) rfl rfl (by (try simp only [List.map_toArray, List.map_cons, List.map_nil]); first | done | rfl | (simp only [List.length_drop, List.length_take]; rfl)) ?_
                      with_reducible refine (graph_around.calls k2 _ _ t266 ((rd_T61 l2_0 x27_2).f0) t269 _ ?side1 ?side2 A28.out).mono ?_
                      (case side1 => repeat (first | exact (Kd.R_reads' HO268.out).2.2 | (with_reducible refine Kd.C_alloc ?_ _) | (with_reducible refine Kd.C_drewN ?_ _) | (with_reducible refine Kd.C_drew ?_)))
                      (case side2 => exact (Kd.R_reads' HO268.out).2.1)
                      rintro e w39 ⟨v270, rfl, ho0, hb⟩
                      refine ⟨_, rfl, ?_⟩
                      have n0_ := Aside0.mk (Kd.R_elder' (by (with_reducible repeat (first | apply Kd.R_alloc | apply Kd.R_drewN | apply Kd.R_drew)); exact HO268.out) (Kd.R_base ho0) hb)
                      have n1_ := Aside0.mk (Kd.R_lower (Kd.R_new' ho0 (Kd.R_lt (by (with_reducible repeat (first | apply Kd.R_alloc | apply Kd.R_drewN | apply Kd.R_drew)); exact HO268.out))) (below_size (by repeat (first | (with_reducible first | exact HB.out | apply below_alloc | apply pw_below_drewN | apply below_drew1 | refine below_set ?_ GE259.out | refine below_set ?_ GE260.out | refine below_set ?_ GE264.out) | exact HB.out))))
                      have n2_ := Aside0.mk (blk_below (g := gb259) (o := .cells #[.slice (some ad263) l2_0.length c2_0] 25 (0, 0)) (by (with_reducible repeat (first | refine blk_drewN ?_ _ | refine blk_drew ?_ | refine blk_alloc ?_ _)); exact BK259.out) hb)
                      have n3_ := Aside0.mk (blk_below (g := gb260) (o := .cells #[.int .i64 a0, .slice (some ad265) l1.length c1] 63 (0, 0)) (by (with_reducible repeat (first | refine blk_drewN ?_ _ | refine blk_drew ?_ | refine blk_alloc ?_ _)); exact BK260.out) hb)
                      have n4_ := Aside0.mk (blk_below (g := gb264) (o := .cells #[.int .i64 ((rd_T61 l2_0 x27_2).f0), .slice A263_1 ((rd_T61 l2_0 x27_2).f1).length c263_1] 61 (0, 0)) (by (with_reducible repeat (first | refine blk_drewN ?_ _ | refine blk_drew ?_ | refine blk_alloc ?_ _)); exact BK264.out) hb)
                      have n5_ := Aside0.mk (below_step (by repeat (first | (with_reducible first | exact HB.out | apply below_alloc | apply pw_below_drewN | apply below_drew1 | refine below_set ?_ GE259.out | refine below_set ?_ GE260.out | refine below_set ?_ GE264.out) | exact HB.out)) hb)
                      clear HO268
                      clear BK259
                      clear BK260
                      clear BK264
                      clear HB
                      have HO268 := n0_
                      have HO271 := n1_
                      have BK259 := n2_
                      have BK260 := n3_
                      have BK264 := n4_
                      have HB := n5_
                      clear n0_ n1_ n2_ n3_ n4_ n5_
                      (try clear hb)
                      (try clear hb2)
                      (try clear hk)
                      (try clear hi)
                      (try clear ho0)
                      obtain ⟨Ao40, co40, eo40⟩ := Kd.R_slice HO271.out
                      (first | subst eo40 | (injection eo40 with f1_ f2_ f3_; have f4_ := f1_.symm; have f5_ := f3_.symm; clear f1_ f2_ f3_; subst f4_; subst f5_))
                      refine hK.out _ _ ⟨(blk_cell BK264.out 0).trans rfl, (blk_cell BK264.out 1).trans rfl, (blk_cell BK260.out 0).trans rfl, (blk_cell BK260.out 1).trans rfl, ((HB.out.cell (World.block_lt_of_cell? w _ hw265_0)).trans hw265_0)⟩ (fun hHeld => ?_)
                      clear hK K
                      refine norm_ (a' := ?_) ?_ ?_
                      rotate_left
                      · show Act.put _ (some 42) _ = _
                        simp only [Act.put, List.setIfInBounds_toArray, List.set_cons_zero, List.set_cons_succ, i64_w, i32_w]
                        rfl
                      refine one_ (i := 11) (N := some 43) #[true, true, true, true, true, true, true, true, true, true, true, true, false] rfl rfl (one_of HT_.out (by kernel_rfl)) (by decide) (fun K hK => ?_)
                      refine goes_ Tryz.func47 (by kernel_rfl) rfl #[.slice A263_1 ((rd_T61 l2_0 x27_2).f1).length c263_1, .slice Ao40 t269.length co40] (by rfl) rfl rfl (by (try simp only [List.map_toArray, List.map_cons, List.map_nil]); first | done | rfl | (simp only [List.length_drop, List.length_take]; rfl)) ?_
                      with_reducible refine (slices_Equal_int_int.calls k2 _ _ ((rd_T61 l2_0 x27_2).f1) _ _ t269 true _ ?side1 ?side2 ?side3 ?side4 A29.out).mono ?_
                      (case side1 => repeat (first | exact (Kd.C_below HR263_1.out HB.out) | (with_reducible refine Kd.C_alloc ?_ _) | (with_reducible refine Kd.C_drewN ?_ _) | (with_reducible refine Kd.C_drew ?_)))
                      (case side2 => exact HC263_1.out)
                      (case side3 => repeat (first | exact (Kd.R_reads' HO271.out).2.2 | (with_reducible refine Kd.C_alloc ?_ _) | (with_reducible refine Kd.C_drewN ?_ _) | (with_reducible refine Kd.C_drew ?_)))
                      (case side4 => exact (Kd.R_reads' HO271.out).2.1)
                      rintro e w' ⟨rfl, ⟨nd, rfl⟩⟩
                      refine ⟨_, rfl, ?_⟩
                      refine hK.out _ _ ⟨(blk_cell BK264.out 0).trans rfl, (blk_cell BK264.out 1).trans rfl, (blk_cell BK260.out 0).trans rfl, (blk_cell BK260.out 1).trans rfl, ((HB.out.cell (World.block_lt_of_cell? w _ hw265_0)).trans hw265_0)⟩ (fun hHeld => ?_)
                      clear hK K
                      refine norm_ (a' := ?_) ?_ ?_
                      rotate_left
                      · show Act.put _ (some 43) _ = _
                        simp only [Act.put, List.setIfInBounds_toArray, List.set_cons_zero, List.set_cons_succ, i64_w, i32_w]
                        rfl
                      refine pure_ (i := 12) (N := some 44) (v := ?_) (a' := ?_) #[true, true, true, true, true, true, true, true, true, true, true, true, true] rfl rfl (any_of HT_.out (by kernel_rfl)) (fun _ _ _ h => h) (Or.inl ⟨by rfl, ?_⟩) ?_ ?_
                      rotate_left
                      · intro w'
                        go_simp
                        with_reducible rfl
                      rotate_left
                      · simp only [Act.put, List.setIfInBounds_toArray, List.set_cons_zero, List.set_cons_succ, i64_w, i32_w]
                        rfl
                      refine done_ (done_of HT_.out (by kernel_rfl)) ?_
                      try go_wp2
                      go_roundg k2
                      case measure => have := HJ3.out; have := HK2.out; omega
                      case rel => exact ⟨(wrap64 (x27_2 + 1)), (by first | rfl | (simp; done) | (simp [*]; done)), H', ⟨by have := HJ3.out; have := HK2.out; omega⟩, ⟨by (with_reducible repeat (first | refine blk_drewN ?_ _ | refine blk_drew ?_ | refine blk_alloc ?_ _)); exact BK259.out⟩, ⟨by (with_reducible repeat (first | refine blk_drewN ?_ _ | refine blk_drew ?_ | refine blk_alloc ?_ _)); exact BK260.out⟩, ⟨by repeat (first | (with_reducible first | exact HB.out | apply below_alloc | apply pw_below_drewN | apply below_drew1 | refine below_set ?_ GE259.out | refine below_set ?_ GE260.out | refine below_set ?_ GE264.out) | exact HB.out)⟩⟩
                    · replace c30 := Bool.eq_false_iff.mpr c30
                      subst c30
                      have H1 : (some (x27_2, 0)) = some (r1, r2) := by rw [if_neg (show ¬ (false = true) by decide)] at H; exact H
                      clear H
                      have H := H1
                      clear H1
                      simp only [Option.some.injEq, Prod.mk.injEq] at H
                      obtain ⟨rfl, rfl⟩ := H
                      have p263 : 0 ≤ (x27_2 : Int) := of_decide_eq_true (by first | (with_reducible assumption) | assumption)
                      have q263 : x27_2 < (l2_0.length : Int) := of_decide_eq_true (by first | (with_reducible assumption) | assumption)
                      obtain ⟨ad263, A263_1, c263_1, e263, hx263_0, hx263_1, hl263_1, hi263_1⟩ := at_T61 HR2_0.out x27_2 p263 q263
                      cases e263
                      replace hx263_0 := (HB.out.cell (World.block_lt_of_cell? w _ hx263_0)).trans hx263_0
                      replace hx263_1 := (HB.out.cell (World.block_lt_of_cell? w _ hx263_1)).trans hx263_1
                      have HR263_1 := Aside0.mk hi263_1
                      have HC263_1 := Aside0.mk hl263_1
                      clear hi263_1 hl263_1
                      replace p263 := eq_true p263
                      replace q263 := eq_true q263
                      try go_wp2_with (first | ((with_reducible refine gate_dst (N := 10) rfl ?_); (try (refine gate_guard (by rfl) ?_; dsimp only)); refine box_event ?hg (N := 10) ?hd (cs := #[.int .i64 0, .slice none 0 0]) (t := 61) ?hr ?_; (case hd => rfl); (case hg => rfl); (case hr => first | (go_simp; done) | (go_simp; rfl)); intro gb264 hg w41 hbox hb; have n0_ := Aside0.mk (blk_below (g := gb259) (o := .cells #[.slice (some ad263) l2_0.length c2_0] 25 (0, 0)) (by (with_reducible repeat (first | refine blk_drewN ?_ _ | refine blk_drew ?_ | refine blk_alloc ?_ _)); exact BK259.out) hb); have n1_ := Aside0.mk (blk_below (g := gb260) (o := .cells #[.int .i64 a0, .slice A1 l1.length c1] 63 (0, 0)) (by (with_reducible repeat (first | refine blk_drewN ?_ _ | refine blk_drew ?_ | refine blk_alloc ?_ _)); exact BK260.out) hb); have n2_ := Aside0.mk (below_step (by repeat (first | (with_reducible first | exact HB.out | apply below_alloc | apply pw_below_drewN | apply below_drew1 | refine below_set ?_ GE259.out | refine below_set ?_ GE260.out) | exact HB.out)) hb); have n3_ := Aside0.mk (hbox); have n4_ := Aside0.mk ((by rw [hg]; exact (below_size (by repeat (first | (with_reducible first | exact HB.out | apply below_alloc | apply pw_below_drewN | apply below_drew1 | refine below_set ?_ GE259.out | refine below_set ?_ GE260.out) | exact HB.out))) : w.heap.size ≤ gb264)); have n5_ := Aside0.mk ((by rw [hg]; exact (below_size (by repeat (first | (with_reducible first | exact HB.out | apply below_alloc | apply pw_below_drewN | apply below_drew1 | refine below_set ?_ GE259.out | refine below_set ?_ GE260.out) | exact HB.out))) : w.heap.size ≤ gb264)); have n6_ := Aside0.mk ((by rw [hg]; exact Nat.ne_of_lt (blk_lt (g := gb259) (o := .cells #[.slice (some ad263) l2_0.length c2_0] 25 (0, 0)) (by (with_reducible repeat (first | refine blk_drewN ?_ _ | refine blk_drew ?_ | refine blk_alloc ?_ _)); exact BK259.out)) : gb259 ≠ gb264)); have n7_ := Aside0.mk ((by rw [hg]; exact Nat.ne_of_gt (blk_lt (g := gb259) (o := .cells #[.slice (some ad263) l2_0.length c2_0] 25 (0, 0)) (by (with_reducible repeat (first | refine blk_drewN ?_ _ | refine blk_drew ?_ | refine blk_alloc ?_ _)); exact BK259.out)) : gb264 ≠ gb259)); have n8_ := Aside0.mk ((by rw [hg]; exact Nat.ne_of_lt (blk_lt (g := gb260) (o := .cells #[.int .i64 a0, .slice A1 l1.length c1] 63 (0, 0)) (by (with_reducible repeat (first | refine blk_drewN ?_ _ | refine blk_drew ?_ | refine blk_alloc ?_ _)); exact BK260.out)) : gb260 ≠ gb264)); have n9_ := Aside0.mk ((by rw [hg]; exact Nat.ne_of_gt (blk_lt (g := gb260) (o := .cells #[.int .i64 a0, .slice A1 l1.length c1] 63 (0, 0)) (by (with_reducible repeat (first | refine blk_drewN ?_ _ | refine blk_drew ?_ | refine blk_alloc ?_ _)); exact BK260.out)) : gb264 ≠ gb260)); clear BK259; clear BK260; clear HB; have BK259 := n0_; have BK260 := n1_; have HB := n2_; have BK264 := n3_; have GW264 := n4_; have GE264 := n5_; have NB259_264 := n6_; have NB264_259 := n7_; have NB260_264 := n8_; have NB264_260 := n9_; clear n0_ n1_ n2_ n3_ n4_ n5_ n6_ n7_ n8_ n9_; clear hb hbox hg; have hnb42 := NB264_259.out; have hnc42 := NB259_264.out; have hnb43 := NB264_260.out; have hnc43 := NB260_264.out; have hcz44_0 : w41.cell? ⟨gb264, 0, none⟩ = some (.int .i64 0) := (blk_cell BK264.out 0).trans rfl; have hcz44_1 : w41.cell? ⟨gb264, 1, none⟩ = some (.slice none 0 0) := (blk_cell BK264.out 1).trans rfl; have hfz44_0 := blk_frozen BK264.out 0; have hfz44_1 := blk_frozen BK264.out 1))
                      have n0_ : Aside0 (((w41.setCell ⟨gb264, 0, none⟩ (.int .i64 ((rd_T61 l2_0 x27_2).f0))).setCell ⟨gb264, 1, none⟩ (.slice A263_1 ((rd_T61 l2_0 x27_2).f1).length c263_1)).heap[gb259]? = some (.cells #[.slice (some ad263) l2_0.length c2_0] 25 (0, 0))) := ⟨by (with_reducible repeat (first | refine blk_drewN ?_ _ | refine blk_drew ?_ | refine blk_alloc ?_ _)); refine blk_far ?_ NB259_264.out _; (with_reducible repeat (first | refine blk_drewN ?_ _ | refine blk_drew ?_ | refine blk_alloc ?_ _)); refine blk_far ?_ NB259_264.out _; (with_reducible repeat (first | refine blk_drewN ?_ _ | refine blk_drew ?_ | refine blk_alloc ?_ _)); exact BK259.out⟩
                      have n1_ : Aside0 (((w41.setCell ⟨gb264, 0, none⟩ (.int .i64 ((rd_T61 l2_0 x27_2).f0))).setCell ⟨gb264, 1, none⟩ (.slice A263_1 ((rd_T61 l2_0 x27_2).f1).length c263_1)).heap[gb260]? = some (.cells #[.int .i64 a0, .slice A1 l1.length c1] 63 (0, 0))) := ⟨by (with_reducible repeat (first | refine blk_drewN ?_ _ | refine blk_drew ?_ | refine blk_alloc ?_ _)); refine blk_far ?_ NB260_264.out _; (with_reducible repeat (first | refine blk_drewN ?_ _ | refine blk_drew ?_ | refine blk_alloc ?_ _)); refine blk_far ?_ NB260_264.out _; (with_reducible repeat (first | refine blk_drewN ?_ _ | refine blk_drew ?_ | refine blk_alloc ?_ _)); exact BK260.out⟩
                      have n2_ : Aside0 (((w41.setCell ⟨gb264, 0, none⟩ (.int .i64 ((rd_T61 l2_0 x27_2).f0))).setCell ⟨gb264, 1, none⟩ (.slice A263_1 ((rd_T61 l2_0 x27_2).f1).length c263_1)).heap[gb264]? = some (.cells #[.int .i64 ((rd_T61 l2_0 x27_2).f0), .slice A263_1 ((rd_T61 l2_0 x27_2).f1).length c263_1] 61 (0, 0))) := ⟨by (with_reducible repeat (first | refine blk_drewN ?_ _ | refine blk_drew ?_ | refine blk_alloc ?_ _)); refine blk_put (cs := #[.int .i64 ((rd_T61 l2_0 x27_2).f0), .slice none 0 0]) ?_ 1 _ rfl; (with_reducible repeat (first | refine blk_drewN ?_ _ | refine blk_drew ?_ | refine blk_alloc ?_ _)); refine blk_put (cs := #[.int .i64 0, .slice none 0 0]) ?_ 0 _ rfl; (with_reducible repeat (first | refine blk_drewN ?_ _ | refine blk_drew ?_ | refine blk_alloc ?_ _)); exact BK264.out⟩
                      have n3_ : Aside0 (Below w.heap.size w ((w41.setCell ⟨gb264, 0, none⟩ (.int .i64 ((rd_T61 l2_0 x27_2).f0))).setCell ⟨gb264, 1, none⟩ (.slice A263_1 ((rd_T61 l2_0 x27_2).f1).length c263_1))) := ⟨by repeat (first | (with_reducible first | exact HB.out | apply below_alloc | apply pw_below_drewN | apply below_drew1 | refine below_set ?_ GE259.out | refine below_set ?_ GE260.out | refine below_set ?_ GE264.out) | exact HB.out)⟩
                      (try clear BK259)
                      (try clear BK260)
                      (try clear BK264)
                      (try clear HB)
                      generalize ((w41.setCell ⟨gb264, 0, none⟩ (.int .i64 ((rd_T61 l2_0 x27_2).f0))).setCell ⟨gb264, 1, none⟩ (.slice A263_1 ((rd_T61 l2_0 x27_2).f1).length c263_1)) = w45 at n0_ n1_ n2_ n3_ ⊢
                      have BK259 := n0_
                      have BK260 := n1_
                      have BK264 := n2_
                      have HB := n3_
                      clear n0_ n1_ n2_ n3_
                      have n0_ := Aside0.mk (blk_drew BK259.out)
                      have n1_ := Aside0.mk (blk_drew BK260.out)
                      have n2_ := Aside0.mk (blk_drew BK264.out)
                      have n3_ := Aside0.mk (below_drew1 HB.out)
                      clear BK259
                      clear BK260
                      clear BK264
                      clear HB
                      have BK259 := n0_
                      have BK260 := n1_
                      have BK264 := n2_
                      have HB := n3_
                      clear n0_ n1_ n2_ n3_
                      have p265 : 0 ≤ (x27_2 : Int) := of_decide_eq_true (by first | (with_reducible assumption) | assumption)
                      have q265 : x27_2 < (l1.length : Int) := of_decide_eq_true (by first | (with_reducible assumption) | assumption)
                      obtain ⟨ad265, A265_0, c265_0, e265, hx265_0, hl265_0, hi265_0⟩ := at_L1 HR1.out x27_2 p265 q265
                      have hw265_0 := hx265_0
                      cases e265
                      replace hx265_0 := (HB.out.cell (World.block_lt_of_cell? w _ hx265_0)).trans hx265_0
                      have HR265_0 := Aside0.mk hi265_0
                      have HC265_0 := Aside0.mk hl265_0
                      clear hi265_0 hl265_0
                      replace p265 := eq_true p265
                      replace q265 := eq_true q265
                      refine start_ (n := 13) (S := fun w' => w'.cell? ⟨gb264, 0, none⟩ = some (.int .i64 ((rd_T61 l2_0 x27_2).f0)) ∧ w'.cell? ⟨gb264, 1, none⟩ = some (.slice A263_1 ((rd_T61 l2_0 x27_2).f1).length c263_1) ∧ w'.cell? ⟨gb260, 0, none⟩ = some (.int .i64 a0) ∧ w'.cell? ⟨gb260, 1, none⟩ = some (.slice (some ad265) l1.length c1) ∧ w'.cell? (ad265.add (x27_2).toNat) = some (.slice A265_0 (rd_L1 l1 x27_2).length c265_0)) (ds := []) #[false, false, false, false, false, false, false, false, false, false, false, false, false] (by kernel_rfl) rfl rfl ⟨(blk_cell BK264.out 0).trans rfl, (blk_cell BK264.out 1).trans rfl, (blk_cell BK260.out 0).trans rfl, (blk_cell BK260.out 1).trans rfl, ((HB.out.cell (World.block_lt_of_cell? w _ hw265_0)).trans hw265_0)⟩ (fun hHeld => ?_); refine with_tabW graph_Check.tab7 graph_Check.bits7 (fun HT_ HW_ => ?_)
                      generalize w45.drew = w46 at BK259 BK260 BK264 HB HR265_0 hx265_0 hHeld ⊢
                      refine pure_ (i := 0) (N := some 32) (v := ?_) (a' := ?_) #[true, false, false, false, false, false, false, false, false, false, false, false, false] rfl rfl (any_of HT_.out (by kernel_rfl)) (fun _ _ _ h => h) (Or.inl ⟨by rfl, ?_⟩) ?_ ?_
                      rotate_left
                      · intro w'
                        go_simp
                        with_reducible rfl
                      rotate_left
                      · simp only [Act.put, List.setIfInBounds_toArray, List.set_cons_zero, List.set_cons_succ, i64_w, i32_w]
                        rfl
                      refine pure_ (i := 3) (N := some 35) (v := ?_) (a' := ?_) #[true, false, false, true, false, false, false, false, false, false, false, false, false] rfl rfl (any_of HT_.out (by kernel_rfl)) (fun _ _ _ h => h) (Or.inl ⟨by rfl, ?_⟩) ?_ ?_
                      rotate_left
                      · intro w'
                        go_simp
                        with_reducible rfl
                      rotate_left
                      · simp only [Act.put, List.setIfInBounds_toArray, List.set_cons_zero, List.set_cons_succ, i64_w, i32_w]
                        rfl
                      refine pure_ (i := 4) (N := some 36) (v := ?_) (a' := ?_) #[true, false, false, true, true, false, false, false, false, false, false, false, false] rfl rfl (any_of HT_.out (by kernel_rfl)) (fun _ _ _ h => h) (Or.inl ⟨by rfl, ?_⟩) ?_ ?_
                      rotate_left
                      · intro w'
                        go_simp
                        with_reducible rfl
                      rotate_left
                      · simp only [Act.put, List.setIfInBounds_toArray, List.set_cons_zero, List.set_cons_succ, i64_w, i32_w]
                        rfl
                      refine pure_ (i := 5) (N := some 37) (v := ?_) (a' := ?_) #[true, false, false, true, true, true, false, false, false, false, false, false, false] rfl rfl (any_of HT_.out (by kernel_rfl)) (fun _ _ _ h => h) (Or.inl ⟨by rfl, ?_⟩) ?_ ?_
                      rotate_left
                      · intro w'
                        go_simp
                        with_reducible rfl
                      rotate_left
                      · simp only [Act.put, List.setIfInBounds_toArray, List.set_cons_zero, List.set_cons_succ, i64_w, i32_w]
                        rfl
                      refine pure_ (i := 8) (N := some 40) (v := ?_) (a' := ?_) #[true, false, false, true, true, true, false, false, true, false, false, false, false] rfl rfl (any_of HT_.out (by kernel_rfl)) (fun _ _ _ h => h) (Or.inl ⟨by rfl, ?_⟩) ?_ ?_
                      rotate_left
                      · intro w'
                        go_simp
                        with_reducible rfl
                      rotate_left
                      · simp only [Act.put, List.setIfInBounds_toArray, List.set_cons_zero, List.set_cons_succ, i64_w, i32_w]
                        rfl
                      refine take_ (i := 1) (N := some 33) (v := ?_) (a' := ?_) #[true, true, false, true, true, true, false, false, true, false, false, false, false] rfl rfl (take_ofW HT_.out HW_.out (by kernel_rfl)) (fun _ _ _ h => h) (Or.inl ⟨by rfl, ?_⟩) hHeld ?_ ?_
                      rotate_left
                      · rintro w' ⟨s0, s1, s2, s3, s4⟩
                        go_simp
                        with_reducible rfl
                      rotate_left
                      · simp only [Act.put, List.setIfInBounds_toArray, List.set_cons_zero, List.set_cons_succ, i64_w, i32_w]
                        rfl
                      refine take_ (i := 2) (N := some 34) (v := ?_) (a' := ?_) #[true, true, true, true, true, true, false, false, true, false, false, false, false] rfl rfl (take_ofW HT_.out HW_.out (by kernel_rfl)) (fun _ _ _ h => h) (Or.inl ⟨by rfl, ?_⟩) hHeld ?_ ?_
                      rotate_left
                      · rintro w' ⟨s0, s1, s2, s3, s4⟩
                        go_simp
                        with_reducible rfl
                      rotate_left
                      · simp only [Act.put, List.setIfInBounds_toArray, List.set_cons_zero, List.set_cons_succ, i64_w, i32_w]
                        rfl
                      refine take_ (i := 6) (N := some 38) (v := ?_) (a' := ?_) #[true, true, true, true, true, true, true, false, true, false, false, false, false] rfl rfl (take_ofW HT_.out HW_.out (by kernel_rfl)) (fun _ _ _ h => h) (Or.inl ⟨by rfl, ?_⟩) hHeld ?_ ?_
                      rotate_left
                      · rintro w' ⟨s0, s1, s2, s3, s4⟩
                        go_simp
                        with_reducible rfl
                      rotate_left
                      · simp only [Act.put, List.setIfInBounds_toArray, List.set_cons_zero, List.set_cons_succ, i64_w, i32_w]
                        rfl
                      refine take_ (i := 9) (N := some 41) (v := ?_) (a' := ?_) #[true, true, true, true, true, true, true, false, true, true, false, false, false] rfl rfl (take_ofW HT_.out HW_.out (by kernel_rfl)) (fun _ _ _ h => h) (Or.inl ⟨by rfl, ?_⟩) hHeld ?_ ?_
                      rotate_left
                      · rintro w' ⟨s0, s1, s2, s3, s4⟩
                        go_simp
                        with_reducible rfl
                      rotate_left
                      · simp only [Act.put, List.setIfInBounds_toArray, List.set_cons_zero, List.set_cons_succ, i64_w, i32_w]
                        rfl
                      refine one_ (i := 7) (N := some 39) #[true, true, true, true, true, true, true, true, true, true, false, false, false] rfl rfl (one_of HT_.out (by kernel_rfl)) (by decide) (fun K hK => ?_)
                      refine goes_ Tryz.func43 (by kernel_rfl) rfl #[.agg #[.int .i64 a0, .slice (some ad265) l1.length c1], .slice A265_0 (rd_L1 l1 x27_2).length c265_0] (by rfl) rfl rfl (by (try simp only [List.map_toArray, List.map_cons, List.map_nil]); first | done | rfl | (simp only [List.length_drop, List.length_take]; rfl)) ?_
                      with_reducible refine (graph_space_keys.calls k2 a0 _ _ l1 _ _ (rd_L1 l1 x27_2) t266 _ ?side1 ?side2 ?side3 ?side4 A27.out).mono ?_
                      (case side1 => repeat (first | exact (Kd.C_below HR1.out HB.out) | (with_reducible refine Kd.C_alloc ?_ _) | (with_reducible refine Kd.C_drewN ?_ _) | (with_reducible refine Kd.C_drew ?_)))
                      (case side2 => exact HC1.out)
                      (case side3 => repeat (first | exact (Kd.C_below HR265_0.out HB.out) | (with_reducible refine Kd.C_alloc ?_ _) | (with_reducible refine Kd.C_drewN ?_ _) | (with_reducible refine Kd.C_drew ?_)))
                      (case side4 => exact HC265_0.out)
                      rintro e w47 ⟨v267, rfl, ho0, hb⟩
                      refine ⟨_, rfl, ?_⟩
                      have n0_ := Aside0.mk (Kd.R_lower ho0 (below_size (by repeat (first | (with_reducible first | exact HB.out | apply below_alloc | apply pw_below_drewN | apply below_drew1 | refine below_set ?_ GE259.out | refine below_set ?_ GE260.out | refine below_set ?_ GE264.out) | exact HB.out))))
                      have n1_ := Aside0.mk (blk_below (g := gb259) (o := .cells #[.slice (some ad263) l2_0.length c2_0] 25 (0, 0)) (by (with_reducible repeat (first | refine blk_drewN ?_ _ | refine blk_drew ?_ | refine blk_alloc ?_ _)); exact BK259.out) hb)
                      have n2_ := Aside0.mk (blk_below (g := gb260) (o := .cells #[.int .i64 a0, .slice (some ad265) l1.length c1] 63 (0, 0)) (by (with_reducible repeat (first | refine blk_drewN ?_ _ | refine blk_drew ?_ | refine blk_alloc ?_ _)); exact BK260.out) hb)
                      have n3_ := Aside0.mk (blk_below (g := gb264) (o := .cells #[.int .i64 ((rd_T61 l2_0 x27_2).f0), .slice A263_1 ((rd_T61 l2_0 x27_2).f1).length c263_1] 61 (0, 0)) (by (with_reducible repeat (first | refine blk_drewN ?_ _ | refine blk_drew ?_ | refine blk_alloc ?_ _)); exact BK264.out) hb)
                      have n4_ := Aside0.mk (below_step (by repeat (first | (with_reducible first | exact HB.out | apply below_alloc | apply pw_below_drewN | apply below_drew1 | refine below_set ?_ GE259.out | refine below_set ?_ GE260.out | refine below_set ?_ GE264.out) | exact HB.out)) hb)
                      clear BK259
                      clear BK260
                      clear BK264
                      clear HB
                      have HO268 := n0_
                      have BK259 := n1_
                      have BK260 := n2_
                      have BK264 := n3_
                      have HB := n4_
                      clear n0_ n1_ n2_ n3_ n4_
                      (try clear hb)
                      (try clear hb2)
                      (try clear hk)
                      (try clear hi)
                      (try clear ho0)
                      obtain ⟨Ao48, co48, eo48⟩ := Kd.R_slice HO268.out
                      (first | subst eo48 | (injection eo48 with f1_ f2_ f3_; have f4_ := f1_.symm; have f5_ := f3_.symm; clear f1_ f2_ f3_; subst f4_; subst f5_))
                      refine hK.out _ _ ⟨(blk_cell BK264.out 0).trans rfl, (blk_cell BK264.out 1).trans rfl, (blk_cell BK260.out 0).trans rfl, (blk_cell BK260.out 1).trans rfl, ((HB.out.cell (World.block_lt_of_cell? w _ hw265_0)).trans hw265_0)⟩ (fun hHeld => ?_)
                      clear hK K
                      refine norm_ (a' := ?_) ?_ ?_
                      rotate_left
                      · show Act.put _ (some 39) _ = _
                        simp only [Act.put, List.setIfInBounds_toArray, List.set_cons_zero, List.set_cons_succ, i64_w, i32_w]
                        rfl
                      refine one_ (i := 10) (N := some 42) #[true, true, true, true, true, true, true, true, true, true, true, false, false] rfl rfl (one_of HT_.out (by kernel_rfl)) (by decide) (fun K hK => ?_)
                      refine goes_ Tryz.func46 (by kernel_rfl) rfl #[.slice Ao48 t266.length co48, .int .i64 ((rd_T61 l2_0 x27_2).f0)] (by rfl) rfl rfl (by (try simp only [List.map_toArray, List.map_cons, List.map_nil]); first | done | rfl | (simp only [List.length_drop, List.length_take]; rfl)) ?_
                      with_reducible refine (graph_around.calls k2 _ _ t266 ((rd_T61 l2_0 x27_2).f0) t269 _ ?side1 ?side2 A28.out).mono ?_
                      (case side1 => repeat (first | exact (Kd.R_reads' HO268.out).2.2 | (with_reducible refine Kd.C_alloc ?_ _) | (with_reducible refine Kd.C_drewN ?_ _) | (with_reducible refine Kd.C_drew ?_)))
                      (case side2 => exact (Kd.R_reads' HO268.out).2.1)
                      rintro e w49 ⟨v270, rfl, ho0, hb⟩
                      refine ⟨_, rfl, ?_⟩
                      have n0_ := Aside0.mk (Kd.R_elder' (by (with_reducible repeat (first | apply Kd.R_alloc | apply Kd.R_drewN | apply Kd.R_drew)); exact HO268.out) (Kd.R_base ho0) hb)
                      have n1_ := Aside0.mk (Kd.R_lower (Kd.R_new' ho0 (Kd.R_lt (by (with_reducible repeat (first | apply Kd.R_alloc | apply Kd.R_drewN | apply Kd.R_drew)); exact HO268.out))) (below_size (by repeat (first | (with_reducible first | exact HB.out | apply below_alloc | apply pw_below_drewN | apply below_drew1 | refine below_set ?_ GE259.out | refine below_set ?_ GE260.out | refine below_set ?_ GE264.out) | exact HB.out))))
                      have n2_ := Aside0.mk (blk_below (g := gb259) (o := .cells #[.slice (some ad263) l2_0.length c2_0] 25 (0, 0)) (by (with_reducible repeat (first | refine blk_drewN ?_ _ | refine blk_drew ?_ | refine blk_alloc ?_ _)); exact BK259.out) hb)
                      have n3_ := Aside0.mk (blk_below (g := gb260) (o := .cells #[.int .i64 a0, .slice (some ad265) l1.length c1] 63 (0, 0)) (by (with_reducible repeat (first | refine blk_drewN ?_ _ | refine blk_drew ?_ | refine blk_alloc ?_ _)); exact BK260.out) hb)
                      have n4_ := Aside0.mk (blk_below (g := gb264) (o := .cells #[.int .i64 ((rd_T61 l2_0 x27_2).f0), .slice A263_1 ((rd_T61 l2_0 x27_2).f1).length c263_1] 61 (0, 0)) (by (with_reducible repeat (first | refine blk_drewN ?_ _ | refine blk_drew ?_ | refine blk_alloc ?_ _)); exact BK264.out) hb)
                      have n5_ := Aside0.mk (below_step (by repeat (first | (with_reducible first | exact HB.out | apply below_alloc | apply pw_below_drewN | apply below_drew1 | refine below_set ?_ GE259.out | refine below_set ?_ GE260.out | refine below_set ?_ GE264.out) | exact HB.out)) hb)
                      clear HO268
                      clear BK259
                      clear BK260
                      clear BK264
                      clear HB
                      have HO268 := n0_
                      have HO271 := n1_
                      have BK259 := n2_
                      have BK260 := n3_
                      have BK264 := n4_
                      have HB := n5_
                      clear n0_ n1_ n2_ n3_ n4_ n5_
                      (try clear hb)
                      (try clear hb2)
                      (try clear hk)
                      (try clear hi)
                      (try clear ho0)
                      obtain ⟨Ao50, co50, eo50⟩ := Kd.R_slice HO271.out
                      (first | subst eo50 | (injection eo50 with f1_ f2_ f3_; have f4_ := f1_.symm; have f5_ := f3_.symm; clear f1_ f2_ f3_; subst f4_; subst f5_))
                      refine hK.out _ _ ⟨(blk_cell BK264.out 0).trans rfl, (blk_cell BK264.out 1).trans rfl, (blk_cell BK260.out 0).trans rfl, (blk_cell BK260.out 1).trans rfl, ((HB.out.cell (World.block_lt_of_cell? w _ hw265_0)).trans hw265_0)⟩ (fun hHeld => ?_)
                      clear hK K
                      refine norm_ (a' := ?_) ?_ ?_
                      rotate_left
                      · show Act.put _ (some 42) _ = _
                        simp only [Act.put, List.setIfInBounds_toArray, List.set_cons_zero, List.set_cons_succ, i64_w, i32_w]
                        rfl
                      refine one_ (i := 11) (N := some 43) #[true, true, true, true, true, true, true, true, true, true, true, true, false] rfl rfl (one_of HT_.out (by kernel_rfl)) (by decide) (fun K hK => ?_)
                      refine goes_ Tryz.func47 (by kernel_rfl) rfl #[.slice A263_1 ((rd_T61 l2_0 x27_2).f1).length c263_1, .slice Ao50 t269.length co50] (by rfl) rfl rfl (by (try simp only [List.map_toArray, List.map_cons, List.map_nil]); first | done | rfl | (simp only [List.length_drop, List.length_take]; rfl)) ?_
                      with_reducible refine (slices_Equal_int_int.calls k2 _ _ ((rd_T61 l2_0 x27_2).f1) _ _ t269 false _ ?side1 ?side2 ?side3 ?side4 A29.out).mono ?_
                      (case side1 => repeat (first | exact (Kd.C_below HR263_1.out HB.out) | (with_reducible refine Kd.C_alloc ?_ _) | (with_reducible refine Kd.C_drewN ?_ _) | (with_reducible refine Kd.C_drew ?_)))
                      (case side2 => exact HC263_1.out)
                      (case side3 => repeat (first | exact (Kd.R_reads' HO271.out).2.2 | (with_reducible refine Kd.C_alloc ?_ _) | (with_reducible refine Kd.C_drewN ?_ _) | (with_reducible refine Kd.C_drew ?_)))
                      (case side4 => exact (Kd.R_reads' HO271.out).2.1)
                      rintro e w' ⟨rfl, ⟨nd, rfl⟩⟩
                      refine ⟨_, rfl, ?_⟩
                      refine hK.out _ _ ⟨(blk_cell BK264.out 0).trans rfl, (blk_cell BK264.out 1).trans rfl, (blk_cell BK260.out 0).trans rfl, (blk_cell BK260.out 1).trans rfl, ((HB.out.cell (World.block_lt_of_cell? w _ hw265_0)).trans hw265_0)⟩ (fun hHeld => ?_)
                      clear hK K
                      refine norm_ (a' := ?_) ?_ ?_
                      rotate_left
                      · show Act.put _ (some 43) _ = _
                        simp only [Act.put, List.setIfInBounds_toArray, List.set_cons_zero, List.set_cons_succ, i64_w, i32_w]
                        rfl
                      refine pure_ (i := 12) (N := some 44) (v := ?_) (a' := ?_) #[true, true, true, true, true, true, true, true, true, true, true, true, true] rfl rfl (any_of HT_.out (by kernel_rfl)) (fun _ _ _ h => h) (Or.inl ⟨by rfl, ?_⟩) ?_ ?_
                      rotate_left
                      · intro w'
                        go_simp
                        with_reducible rfl
                      rotate_left
                      · simp only [Act.put, List.setIfInBounds_toArray, List.set_cons_zero, List.set_cons_succ, i64_w, i32_w]
                        rfl
                      refine done_ (done_of HT_.out (by kernel_rfl)) ?_
                      try go_wp2
                      go_ret2
                      exact ⟨by first | rfl | (simp [errW_none, errW_some] <;> rfl) | (simp [*, errW_none, errW_some] <;> rfl), by repeat (first | (with_reducible first | exact HB.out | apply below_alloc | apply pw_below_drewN | apply below_drew1 | refine below_set ?_ GE259.out | refine below_set ?_ GE260.out | refine below_set ?_ GE264.out) | exact HB.out)⟩
                  · rw [if_neg c26] at H
                    exact absurd H (by simp)
                · rw [if_neg c25] at H
                  exact absurd H (by simp)
              · rw [if_neg c24] at H
                exact absurd H (by simp)
            · rw [if_neg c23] at H
              have c23b0 : decide (x27_2 < (l2_0.length : Int)) = false := decide_eq_false c23
              clear c23
              simp only [Option.some.injEq, Prod.mk.injEq] at H
              obtain ⟨rfl, rfl⟩ := H
              go_wp2
              go_ret2
              exact ⟨by first | rfl | (simp [errW_none, errW_some] <;> rfl) | (simp [*, errW_none, errW_some] <;> rfl), by repeat (first | (with_reducible first | exact HB.out | apply below_alloc | apply pw_below_drewN | apply below_drew1 | refine below_set ?_ GE259.out | refine below_set ?_ GE260.out) | exact HB.out)⟩
open Go.Proofs.YthbkomkgciemiaaGreat.RF
theorem equal_loop (a b : List Int) (hl : a.length = b.length) (ha : a.length ≤ 4096) (d : Nat) : ∀ i : Nat, i + d = a.length → ∃ k r, slices_Equal_int_int.l0 k a b (a.length : Int) i = some r ∧ (r = true ↔ ∀ j : Nat, i ≤ j → j < a.length → rd a j = rd b j) := by
  induction d with
  | zero =>
    intro i hi
    refine ⟨1, true, ?_, ⟨fun _ j h1 h2 => by omega, fun _ => rfl⟩⟩
    unfold slices_Equal_int_int.l0; rw [if_neg (by omega)]
  | succ d ih =>
    intro i hi
    by_cases c : rd a i = rd b i
    · obtain ⟨k, r, h1, h2⟩ := ih (i + 1) (by omega)
      refine ⟨k + 1, r, ?_, ?_⟩
      · unfold slices_Equal_int_int.l0; rw [if_pos (by omega), if_pos (by omega), if_pos (by omega), if_pos (by omega), if_pos c, w64 (by omega)]; exact h1
      · rw [h2]
        constructor
        · intro h j h3 h4
          rcases Nat.lt_or_ge i j with h5 | h5
          · exact h j h5 h4
          · have : j = i := by omega
            subst this; exact c
        · intro h j h3 h4; exact h j (by omega) h4
    · refine ⟨1, false, ?_, ⟨fun h => (by cases h), fun h => absurd (h i (Nat.le_refl _) (by omega)) c⟩⟩
      unfold slices_Equal_int_int.l0; rw [if_pos (by omega), if_pos (by omega), if_pos (by omega), if_pos (by omega), if_neg c]
theorem equal_ex (a b : List Int) (ha : a.length ≤ 4096) : ∃ k, slices_Equal_int_int.f k a b = some (decide (a = b)) := by
  by_cases c : (a.length : Int) = (b.length : Int)
  · obtain ⟨k, r, h1, h2⟩ := equal_loop a b (by omega) ha a.length 0 (by omega)
    refine ⟨k, ?_⟩
    unfold slices_Equal_int_int.f; rw [if_pos c]
    refine h1.trans ?_
    congr 1
    have : r = true ↔ a = b := by
      rw [h2]
      constructor
      · intro h
        refine List.ext_getElem (by omega) fun j hj hj' => ?_
        have := h j (Nat.zero_le _) hj
        simpa [rd, hj, hj'] using this
      · rintro rfl j _ _; rfl
    cases r with
    | true => exact (decide_eq_true (this.1 rfl)).symm
    | false => symm; rw [decide_eq_false_iff_not]; intro h; have := this.2 h; cases this
  · refine ⟨0, ?_⟩
    unfold slices_Equal_int_int.f; rw [if_neg c]
    congr 1; symm; rw [decide_eq_false_iff_not]; rintro rfl; exact c rfl
theorem stepN_neg (m n x : Int) : stepN m n (-x) = stepN m n x := by
  unfold stepN
  by_cases c1 : m = 1
  · rw [if_pos c1, if_pos c1]; unfold mx; repeat' split
    all_goals omega
  · by_cases c2 : m = 2
    · rw [if_neg c1, if_pos c2, if_neg c1, if_pos c2, Int.neg_mul_neg]
    · rw [if_neg c1, if_neg c2, if_neg c1, if_neg c2]; unfold mx; repeat' split
      all_goals omega
theorem fold_neg (m : Int) : ∀ (xs : List Int) (n : Int), (xs.map fun x => -x).foldl (stepN m) n = xs.foldl (stepN m) n
  | [], _ => rfl
  | x :: r, n => by rw [List.map_cons, List.foldl_cons, List.foldl_cons, stepN_neg, fold_neg m r]
theorem subV_neg : ∀ (a b : List Int), subV b a = (subV a b).map fun x => -x
  | [], [] => rfl
  | [], _ :: _ => rfl
  | _ :: _, [] => rfl
  | x :: a, y :: b => by
    have := subV_neg a b
    unfold subV at this ⊢
    rw [List.zipWith_cons_cons, List.zipWith_cons_cons, List.map_cons, this]
    congr 1; omega
theorem keyV_comm (m : Int) (a b : List Int) : keyV m a b = keyV m b a := by
  unfold keyV normF
  rw [subV_neg b a, fold_neg]
theorem filter_mono {p q : Int → Bool} (h : ∀ x, p x = true → q x = true) : ∀ xs : List Int, (xs.filter p).length ≤ (xs.filter q).length
  | [] => by simp
  | x :: r => by
    have := filter_mono h r
    cases hp : p x with
    | true => simp [hp, h x hp]; exact this
    | false => cases hq : q x <;> simp [hp, hq] <;> omega
theorem cnt_sorted : ∀ (s : List Int) (j : Nat), s.Pairwise (· ≤ ·) → j < s.length → (s.filter fun y => decide (y < rd s j)).length ≤ j ∧ j < (s.filter fun y => decide (y ≤ rd s j)).length
  | [], j, _, h => by simp at h
  | a :: r, 0, hs, _ => by
    obtain ⟨ha, _⟩ := List.pairwise_cons.1 hs
    have e : rd (a :: r) ((0 : Nat) : Int) = a := by simp [rd]
    rw [e]
    constructor
    · rw [Nat.le_zero, List.length_eq_zero_iff, List.filter_eq_nil_iff]
      intro y hy
      rcases List.mem_cons.1 hy with rfl | hy
      · simp
      · have := ha y hy; simp; omega
    · simp
  | a :: r, j + 1, hs, hj => by
    obtain ⟨ha, hr⟩ := List.pairwise_cons.1 hs
    have hjr : j < r.length := by simpa using hj
    obtain ⟨h1, h2⟩ := cnt_sorted r j hr hjr
    have e : rd (a :: r) ((j + 1 : Nat) : Int) = rd r j := by unfold rd; simp [show ((j : Int) + 1).toNat = j + 1 by omega]
    rw [e]
    have hle : a ≤ rd r j := ha _ (rd_mem (by omega) (by omega))
    constructor
    · have : ((a :: r).filter fun y => decide (y < rd r j)).length ≤ (r.filter fun y => decide (y < rd r j)).length + 1 := by
        by_cases c : a < rd r j <;> simp [c]
      omega
    · simp [hle]; omega
theorem sortI_perm (xs : List Int) : (sortI xs).Perm xs := List.mergeSort_perm xs _
theorem sortI_sorted (xs : List Int) : (sortI xs).Pairwise (· ≤ ·) := by
  have := List.pairwise_mergeSort (le := fun x y : Int => decide (x ≤ y)) (fun a b c h1 h2 => by simp at *; omega) (fun a b => by simp; omega) xs
  refine this.imp ?_
  intro a b h; simpa using h
theorem kth_cnt (xs : List Int) (j : Nat) (hj : j < xs.length) : (xs.filter fun y => decide (y < rd (sortI xs) j)).length ≤ j ∧ j < (xs.filter fun y => decide (y ≤ rd (sortI xs) j)).length ∧ rd (sortI xs) j ∈ xs := by
  have hl : (sortI xs).length = xs.length := sortI_length xs
  obtain ⟨h1, h2⟩ := cnt_sorted (sortI xs) j (sortI_sorted xs) (by omega)
  have hp := sortI_perm xs
  exact ⟨by rw [(hp.filter _).length_eq] at h1; exact h1, by rw [(hp.filter _).length_eq] at h2; exact h2, hp.mem_iff.1 (rd_mem (by omega) (by omega))⟩
theorem aroundTo_cnt (ks : List Int) (t : Int) : ∀ n : Nat, n ≤ ks.length → (aroundTo ks t n).length = ((ks.take n).filter fun y => decide (y ≤ t)).length
  | 0, _ => by simp [aroundTo]
  | n + 1, h => by
    have ih := aroundTo_cnt ks t n (by omega)
    rw [take_succ_rd ks n (by omega), List.filter_append, List.length_append, ← ih]
    by_cases c : rd ks n ≤ t <;> simp [aroundTo, c]
theorem aroundV_cnt (ks : List Int) (t : Int) : (aroundV ks t).length = (ks.filter fun y => decide (y ≤ t)).length := by
  have := aroundTo_cnt ks t ks.length (Nat.le_refl _)
  rw [List.take_length] at this
  exact this
theorem enough (ks : List Int) (j : Nat) (hj : j < ks.length) (y : Int) : j + 1 ≤ (aroundV ks y).length ↔ rd (sortI ks) j ≤ y := by
  obtain ⟨h1, h2, _⟩ := kth_cnt ks j hj
  rw [aroundV_cnt]
  constructor
  · intro h
    apply Decidable.byContradiction
    intro hn
    have := filter_mono (p := fun z => decide (z ≤ y)) (q := fun z => decide (z < rd (sortI ks) j)) (fun z hz => by simp at hz ⊢; omega) ks
    omega
  · intro h
    have := filter_mono (p := fun z => decide (z ≤ rd (sortI ks) j)) (q := fun z => decide (z ≤ y)) (fun z hz => by simp at hz ⊢; omega) ks
    omega
open Go.RowKit
instance okAtDec (n : Int) (xs : List Int) (q : Nat) : Decidable (okAt n xs q) := by unfold okAt; infer_instance
instance hoodOkDec (n : Int) (j : Nat) (h : Hd) : Decidable (hoodOk n j h) := by unfold hoodOk; infer_instance
instance validGDec (n : Int) (g : List Hd) : Decidable (ValidG n g) := by unfold ValidG; infer_instance
def Asked (m : Int) (l : List (List Int)) (g : List Hd) (v : List Int) (from_ : Int) : Prop := rightF m l = true ∧ ValidG l.length g ∧ alikeF (rdL l 0) v = true ∧ 0 ≤ from_ ∧ from_ < (l.length : Int)
instance askedDec (m : Int) (l : List (List Int)) (g : List Hd) (v : List Int) (from_ : Int) : Decidable (Asked m l g v from_) := by unfold Asked; infer_instance
theorem valid_no {n : Int} {g : List Hd} (hs : shortG g) (h : ¬ ValidG n g) : ValidAt n g false := by
  obtain ⟨k, r, h1, h2⟩ := valid_ex n g hs
  cases r with
  | false => exact ⟨k, h1⟩
  | true => exact absurd (h2.1 rfl) h
theorem begOk_of {m : Int} {l : List (List Int)} {g : List Hd} {v : List Int} {from_ : Int} (hs : shortG g) (h : Asked m l g v from_) : BegOk m l g v from_ := by
  obtain ⟨h1, h2, h3, h4, h5⟩ := h
  obtain ⟨_, ⟨hl1, hl2⟩, _⟩ := rightF_iff.1 h1
  exact ⟨h1, valid_at hs h2, good_of_valid h2, hl1, hl2, h3, h4, h5⟩
set_option maxHeartbeats 400000 in
theorem beginNoC (m : Int) (A1 : Option Addr) (c1 : Nat) (l : List (List Int)) (A2 : Option Addr) (c2 : Nat) (g : List Hd) (A3 : Option Addr) (c3 : Nat) (v : List Int) (from_ : Int) (w : World) (hr1 : Kd.C (Kd.slice 3 (Kd.int .i64)) w A1 l.length l) (hc1 : l.length ≤ c1) (hr2 : Kd.C k61 w A2 g.length g) (hc2 : g.length ≤ c2) (hr3 : Kd.C (Kd.int .i64) w A3 v.length v) (hc3 : v.length ≤ c3) (hs : shortG g) (h : ¬ Asked m l g v from_) :
    Calls Tryz.prog 30 #[.int .i64 m, .slice A1 l.length c1, .agg #[.slice A2 g.length c2], .slice A3 v.length c3, .int .i64 from_] w fun e w' => e = .returned (.tuple #[searchV m A1 l.length c1 A2 g.length c2 none 0 0, .bool false]) ∧ Below w.heap.size w w' := by
  cases h1 : rightF m l with
  | false => exact beginNo1 m A1 c1 l A2 c2 g A3 c3 v from_ w hr1 hc1 hr2 hc2 hr3 hc3 h1
  | true =>
    obtain ⟨_, ⟨hl1, hl2⟩, _⟩ := rightF_iff.1 h1
    by_cases h2 : ValidG l.length g
    · cases h3 : alikeF (rdL l 0) v with
      | false => exact beginNo3 m A1 c1 l A2 c2 g A3 c3 v from_ w hr1 hc1 hr2 hc2 hr3 hc3 h1 (valid_at hs h2) hl1 h3
      | true =>
        by_cases h4 : from_ < 0
        · exact beginNo4 m A1 c1 l A2 c2 g A3 c3 v from_ w hr1 hc1 hr2 hc2 hr3 hc3 h1 (valid_at hs h2) hl1 h3 h4
        · by_cases h5 : (l.length : Int) ≤ from_
          · exact beginNo5 m A1 c1 l A2 c2 g A3 c3 v from_ w hr1 hc1 hr2 hc2 hr3 hc3 h1 (valid_at hs h2) hl1 h3 h5
          · exact absurd ⟨h1, h2, h3, by omega, by omega⟩ h
    · exact beginNo2 m A1 c1 l A2 c2 g A3 c3 v from_ w hr1 hc1 hr2 hc2 hr3 hc3 h1 (valid_no hs h2)
theorem wres_run' {fn : Func} {p1 p2 p3 p4 : Tmp} (h : fn.results = #[.cell p1 26, .cell p2 3, .cell p3 4, .cell p4 30]) (tmps : Array Value) (s0 : Nat) (W : World) (v : Value) (a : Int) (b : Bool) (x : Int)
    (hr : W.heap[s0 + 1 + 1 + 1]? = some (.cells #[v] 26 (0, 0)) ∧ W.heap[s0 + 1 + 1 + 1 + 1]? = some (.cells #[.int .i64 a] 3 (0, 0)) ∧ W.heap[s0 + 1 + 1 + 1 + 1 + 1]? = some (.cells #[.bool b] 4 (0, 0)) ∧ W.heap[s0 + 1 + 1 + 1 + 1 + 1 + 1]? = some (.cells #[.int .i64 x] 30 (0, 0)))
    (h1 : tmps.getD p1 undef = .pointer (some ⟨s0 + 1 + 1 + 1, 0, none⟩)) (h2 : tmps.getD p2 undef = .pointer (some ⟨s0 + 1 + 1 + 1 + 1, 0, none⟩)) (h3 : tmps.getD p3 undef = .pointer (some ⟨s0 + 1 + 1 + 1 + 1 + 1, 0, none⟩)) (h4 : tmps.getD p4 undef = .pointer (some ⟨s0 + 1 + 1 + 1 + 1 + 1 + 1, 0, none⟩)) :
    (results fn tmps).run Tryz.prog W = .ok (.tuple #[v, .int .i64 a, .bool b, .int .i64 x]) W :=
  results_cccc h tmps W _ _ _ _ _ _ _ _ h1 h2 h3 h4 (load_si _ _ _ (cell_of_blk hr.1)) (load_i _ _ _ (cell_of_blk hr.2.1)) (load_b _ _ _ (cell_of_blk hr.2.2.1)) (load_e _ _ _ (cell_of_blk hr.2.2.2))
theorem refused_end (m : Int) (A1 : Option Addr) (n1 c1 : Nat) (A2 : Option Addr) (n2 c2 : Nat) (A4 : Option Addr) (n4 c4 s0 : Nat) (w1 : World) (hX : w1.heap[s0 + 1 + 1 + 1]? = some (.cells #[.slice none 0 0] 26 (0, 0)) ∧ w1.heap[s0 + 1 + 1 + 1 + 1]? = some (.cells #[.int .i64 0] 3 (0, 0)) ∧ w1.heap[s0 + 1 + 1 + 1 + 1 + 1]? = some (.cells #[.bool false] 4 (0, 0)) ∧ w1.heap[s0 + 1 + 1 + 1 + 1 + 1 + 1]? = some (.cells #[.int .i64 0] 30 (0, 0))) (hsz : s0 + 1 + 1 + 1 + 1 + 1 + 1 + 1 ≤ w1.heap.size) :
    let W := (((((w1.alloc (.cells #[.int .i64 m, .slice A1 n1 c1, .slice A2 n2 c2, .slice A4 n4 c4] 65)).setCell ⟨s0 + 1 + 1 + 1, 0, none⟩ (.slice none 0 0)).setCell ⟨s0 + 1 + 1 + 1 + 1, 0, none⟩ (.int .i64 0)).setCell ⟨s0 + 1 + 1 + 1 + 1 + 1, 0, none⟩ (.bool false)).setCell ⟨s0 + 1 + 1 + 1 + 1 + 1 + 1, 0, none⟩ (.int .i64 1))
    (W.heap[s0 + 1 + 1 + 1]? = some (.cells #[.slice none 0 0] 26 (0, 0)) ∧ W.heap[s0 + 1 + 1 + 1 + 1]? = some (.cells #[.int .i64 0] 3 (0, 0)) ∧ W.heap[s0 + 1 + 1 + 1 + 1 + 1]? = some (.cells #[.bool false] 4 (0, 0)) ∧ W.heap[s0 + 1 + 1 + 1 + 1 + 1 + 1]? = some (.cells #[.int .i64 1] 30 (0, 0))) ∧ Below s0 w1 W := by
  intro W
  obtain ⟨V3, V4, V5, V6⟩ := hX
  refine ⟨⟨?_, ?_, ?_, ?_⟩, ?_⟩
  · rw [Below.heap_setCell _ _ _ _ (by simp <;> omega), Below.heap_setCell _ _ _ _ (by simp <;> omega), Below.heap_setCell _ _ _ _ (by simp <;> omega)]
    exact blk_put (blk_alloc V3 _) 0 _ rfl
  · rw [Below.heap_setCell _ _ _ _ (by simp <;> omega), Below.heap_setCell _ _ _ _ (by simp <;> omega)]
    exact blk_put ((Below.heap_setCell _ _ _ _ (by simp <;> omega)).trans (blk_alloc V4 _)) 0 _ rfl
  · rw [Below.heap_setCell _ _ _ _ (by simp <;> omega)]
    exact blk_put ((Below.heap_setCell _ _ _ _ (by simp <;> omega)).trans ((Below.heap_setCell _ _ _ _ (by simp <;> omega)).trans (blk_alloc V5 _))) 0 _ rfl
  · exact blk_put ((Below.heap_setCell _ _ _ _ (by simp <;> omega)).trans ((Below.heap_setCell _ _ _ _ (by simp <;> omega)).trans ((Below.heap_setCell _ _ _ _ (by simp <;> omega)).trans (blk_alloc V6 _)))) 0 _ rfl
  · exact ((((below_alloc (Below.refl w1.heap.size w1) _).mono (by omega)).setCell (p := ⟨s0 + 1 + 1 + 1, 0, none⟩) (by simp; omega) _).setCell (p := ⟨s0 + 1 + 1 + 1 + 1, 0, none⟩) (by simp; omega) _).setCell (p := ⟨s0 + 1 + 1 + 1 + 1 + 1, 0, none⟩) (by simp; omega) _ |>.setCell (p := ⟨s0 + 1 + 1 + 1 + 1 + 1 + 1, 0, none⟩) (by simp; omega) _
def Begins (ok : Bool) (m : Int) (A1 : Option Addr) (n1 c1 : Nat) (A2 : Option Addr) (n2 c2 : Nat) (args : Array Value) (w : World) : Prop := ∀ W, Below w.heap.size w W → Calls Tryz.prog 30 args W fun e w' => ∃ (A4 : Option Addr) (n4 c4 : Nat), e = .returned (.tuple #[.agg #[.int .i64 m, .slice A1 n1 c1, .slice A2 n2 c2, .slice A4 n4 c4], .bool ok]) ∧ Below W.heap.size W w'
set_option maxHeartbeats 1000000 in
set_option maxRecDepth 100000 in
theorem walkNoC (m : Int) (A1 : Option Addr) (n1 c1 : Nat) (A2 : Option Addr) (n2 c2 : Nat) (A3 : Option Addr) (n3 c3 : Nat) (from_ : Int) (w : World) (hno : Begins false m A1 n1 c1 A2 n2 c2 #[.int .i64 m, .slice A1 n1 c1, .agg #[.slice A2 n2 c2], .slice A3 n3 c3, .int .i64 from_] w) :
    Calls Tryz.prog 9 #[.int .i64 m, .slice A1 n1 c1, .agg #[.slice A2 n2 c2], .slice A3 n3 c3, .int .i64 from_] w fun e w' => e = .returned (.tuple #[.slice none 0 0, .int .i64 1]) ∧ Below w.heap.size w w' := by
  have hu := Tryz.underlying65
  have hu3 := Tryz.underlying25
  have HN := Aside0.mk hno
  clear hno
  go_enter Tryz.func9, Tryz.ntmps9
  go_wp2_with fail
  refine (HN.out _ (below_alloc (Below.refl _ w) _)).mono ?_
  rintro e w1 ⟨A4, n4, c4, rfl, hb⟩
  have HB := Aside0.mk (below_step (below_alloc (Below.refl _ w) _) hb)
  clear hb HN
  go_wp2
  go_ret2
  exact ⟨rfl, below_alloc HB.out _⟩
set_option maxHeartbeats 1000000 in
set_option maxRecDepth 100000 in
theorem withinNoC (ok : Bool) (m : Int) (A1 : Option Addr) (n1 c1 : Nat) (A2 : Option Addr) (n2 c2 : Nat) (A3 : Option Addr) (n3 c3 : Nat) (from_ t : Int) (w : World) (hno : Begins ok m A1 n1 c1 A2 n2 c2 #[.int .i64 m, .slice A1 n1 c1, .agg #[.slice A2 n2 c2], .slice A3 n3 c3, .int .i64 from_] w) (hc : ok = true → t < 0 ∨ 134217728 < t) :
    Calls Tryz.prog 10 #[.int .i64 m, .slice A1 n1 c1, .agg #[.slice A2 n2 c2], .slice A3 n3 c3, .int .i64 from_, .int .i64 t] w fun e w' => e = .returned (.tuple #[.slice none 0 0, .int .i64 0, .bool false, .int .i64 1]) ∧ Below w.heap.size w w' := by
  have hu := Tryz.underlying65
  have hu3 := Tryz.underlying25
  have HN := Aside0.mk (fun W hW => (callsIn_wide (n := 0)).2 (hno W hW))
  clear hno
  refine callsIn_wide (n := 0).1 ?_
  refine callsIn_of_wp_marks Tryz.func10 rfl trivial ?_ rfl
  simp only [Tryz.ntmps10, List.size_toArray, List.length_cons, List.length_nil, Nat.reduceAdd, Nat.reduceSub, Array.replicate_succ, Array.replicate_zero, List.push_toArray, List.append_toArray, List.nil_append, List.cons_append]
  gi_wp2
  refine ⟨trivial, rfl, (HN.out _ (below_alloc (below_alloc (below_alloc (below_alloc (below_alloc (below_alloc (below_alloc (Below.refl _ w) _) _) _) _) _) _) _)).mono ?_⟩
  rintro e w1 ⟨A4, n4, c4, rfl, hb⟩
  have HB := Aside0.mk (below_step (below_alloc (below_alloc (below_alloc (below_alloc (below_alloc (below_alloc (below_alloc (Below.refl _ w) _) _) _) _) _) _) _) hb)
  have X0 := blk_below (blk_alloc (blk_alloc (blk_alloc (blk_alloc (blk_alloc (blk_alloc (blk_new w (.cells #[.int .i64 m] 3)) _) _) _) _) _) _) hb
  have X1 := blk_below (blk_alloc (blk_alloc (blk_alloc (blk_alloc (blk_alloc (blk_new (w.alloc (.cells #[.int .i64 m] 3)) (.cells #[.slice A2 n2 c2] 25)) _) _) _) _) _) hb
  have X2 := blk_below (blk_alloc (blk_alloc (blk_alloc (blk_alloc (blk_new ((w.alloc (.cells #[.int .i64 m] 3)).alloc (.cells #[.slice A2 n2 c2] 25)) (.cells #[.int .i64 t] 3)) _) _) _) _) hb
  have X3 := blk_below (blk_alloc (blk_alloc (blk_alloc (blk_new (((w.alloc (.cells #[.int .i64 m] 3)).alloc (.cells #[.slice A2 n2 c2] 25)).alloc (.cells #[.int .i64 t] 3)) (.cells #[.slice none 0 0] 26)) _) _) _) hb
  have X4 := blk_below (blk_alloc (blk_alloc (blk_new ((((w.alloc (.cells #[.int .i64 m] 3)).alloc (.cells #[.slice A2 n2 c2] 25)).alloc (.cells #[.int .i64 t] 3)).alloc (.cells #[.slice none 0 0] 26)) (.cells #[.int .i64 0] 3)) _) _) hb
  have X5 := blk_below (blk_alloc (blk_new (((((w.alloc (.cells #[.int .i64 m] 3)).alloc (.cells #[.slice A2 n2 c2] 25)).alloc (.cells #[.int .i64 t] 3)).alloc (.cells #[.slice none 0 0] 26)).alloc (.cells #[.int .i64 0] 3)) (.cells #[.bool false] 4)) _) hb
  have X6 := blk_below (blk_new ((((((w.alloc (.cells #[.int .i64 m] 3)).alloc (.cells #[.slice A2 n2 c2] 25)).alloc (.cells #[.int .i64 t] 3)).alloc (.cells #[.slice none 0 0] 26)).alloc (.cells #[.int .i64 0] 3)).alloc (.cells #[.bool false] 4)) (.cells #[.int .i64 0] 30)) hb
  simp only [World.size_alloc] at X0 X1 X2 X3 X4 X5 X6
  have hsz := hb.size
  simp only [World.size_alloc] at hsz
  have d2 : ∀ o, (w1.alloc o).cell? ⟨w.heap.size + 1 + 1, 0, none⟩ = some (.int .i64 t) := fun o => cell_of_blk (blk_alloc X2 o)
  obtain ⟨W2, hW2⟩ : ∃ W2, W2 = w1.alloc (.cells #[.int .i64 m, .slice A1 n1 c1, .slice A2 n2 c2, .slice A4 n4 c4] 65) := ⟨_, rfl⟩
  have Y3 := cell_of_blk (blk_alloc X3 (.cells #[.int .i64 m, .slice A1 n1 c1, .slice A2 n2 c2, .slice A4 n4 c4] 65))
  have Y4 := cell_of_blk (blk_alloc X4 (.cells #[.int .i64 m, .slice A1 n1 c1, .slice A2 n2 c2, .slice A4 n4 c4] 65))
  have Y5 := cell_of_blk (blk_alloc X5 (.cells #[.int .i64 m, .slice A1 n1 c1, .slice A2 n2 c2, .slice A4 n4 c4] 65))
  have Y6 := cell_of_blk (blk_alloc X6 (.cells #[.int .i64 m, .slice A1 n1 c1, .slice A2 n2 c2, .slice A4 n4 c4] 65))
  have Z3 := frozen_of_blk (blk_alloc X3 (.cells #[.int .i64 m, .slice A1 n1 c1, .slice A2 n2 c2, .slice A4 n4 c4] 65))
  have Z4 := frozen_of_blk (blk_alloc X4 (.cells #[.int .i64 m, .slice A1 n1 c1, .slice A2 n2 c2, .slice A4 n4 c4] 65))
  have Z5 := frozen_of_blk (blk_alloc X5 (.cells #[.int .i64 m, .slice A1 n1 c1, .slice A2 n2 c2, .slice A4 n4 c4] 65))
  have Z6 := frozen_of_blk (blk_alloc X6 (.cells #[.int .i64 m, .slice A1 n1 c1, .slice A2 n2 c2, .slice A4 n4 c4] 65))
  have HX := Aside0.mk (And.intro X3 (And.intro X4 (And.intro X5 X6)))
  clear hb HN X0 X1 X2 X3 X4 X5 X6 hW2 W2
  have HE := Aside0.mk (refused_end m A1 n1 c1 A2 n2 c2 A4 n4 c4 w.heap.size w1 HX.out hsz)
  have hcc : ok = false ∨ (ok = true ∧ t < 0) ∨ (ok = true ∧ ¬ t < 0 ∧ 134217728 < t) := by
    cases ok with
    | false => exact .inl rfl
    | true => have := hc rfl; exact (Decidable.em (t < 0)).elim (fun h => .inr (.inl ⟨rfl, h⟩)) (fun h => .inr (.inr ⟨rfl, h, by omega⟩))
  clear hc
  rcases hcc with rfl | ⟨rfl, h1⟩ | ⟨rfl, h1, h2⟩
  all_goals
    gi_wp2
    exact ⟨_, wres_run' rfl _ w.heap.size _ (.slice none 0 0) 0 false 1 HE.out.1 rfl rfl rfl rfl, rfl, HB.out.trans (HE.out.2.mono (by omega))⟩
set_option maxHeartbeats 1000000 in
set_option maxRecDepth 100000 in
theorem nearestNoC (ok : Bool) (m : Int) (A1 : Option Addr) (n1 c1 : Nat) (A2 : Option Addr) (n2 c2 : Nat) (A3 : Option Addr) (n3 c3 : Nat) (from_ k : Int) (w : World) (hno : Begins ok m A1 n1 c1 A2 n2 c2 #[.int .i64 m, .slice A1 n1 c1, .agg #[.slice A2 n2 c2], .slice A3 n3 c3, .int .i64 from_] w) (hc : ok = true → k < 1 ∨ 64 < k) :
    Calls Tryz.prog 11 #[.int .i64 m, .slice A1 n1 c1, .agg #[.slice A2 n2 c2], .slice A3 n3 c3, .int .i64 from_, .int .i64 k] w fun e w' => e = .returned (.tuple #[.slice none 0 0, .int .i64 0, .bool false, .int .i64 1]) ∧ Below w.heap.size w w' := by
  have hu := Tryz.underlying65
  have hu3 := Tryz.underlying25
  have HN := Aside0.mk (fun W hW => (callsIn_wide (n := 0)).2 (hno W hW))
  clear hno
  refine callsIn_wide (n := 0).1 ?_
  refine callsIn_of_wp_marks Tryz.func11 rfl trivial ?_ rfl
  simp only [Tryz.ntmps11, List.size_toArray, List.length_cons, List.length_nil, Nat.reduceAdd, Nat.reduceSub, Array.replicate_succ, Array.replicate_zero, List.push_toArray, List.append_toArray, List.nil_append, List.cons_append]
  gi_wp2
  refine ⟨trivial, rfl, (HN.out _ (below_alloc (Below.refl _ w) _)).mono ?_⟩
  rintro e w1 ⟨A4, n4, c4, rfl, hb⟩
  have HB := Aside0.mk (below_alloc (below_step (below_alloc (Below.refl _ w) _) hb) (.cells #[.int .i64 m, .slice A1 n1 c1, .slice A2 n2 c2, .slice A4 n4 c4] 65))
  clear hb HN
  have hcc : ok = false ∨ (ok = true ∧ k < 1) ∨ (ok = true ∧ ¬ k < 1 ∧ 64 < k) := by
    cases ok with
    | false => exact .inl rfl
    | true => have := hc rfl; exact (Decidable.em (k < 1)).elim (fun h => .inr (.inl ⟨rfl, h⟩)) (fun h => .inr (.inr ⟨rfl, h, by omega⟩))
  clear hc
  rcases hcc with rfl | ⟨rfl, h1⟩ | ⟨rfl, h1, h2⟩
  all_goals
    gi_wp2
    exact ⟨_, results_tmp4 rfl _ _ _, rfl, HB.out⟩
theorem cmpI_neg {x y : Int} : cmpI x y < 0 ↔ x < y := by
  unfold cmpI
  by_cases h1 : x < y
  · simp [h1]
  · by_cases h2 : y < x <;> simp [h1, h2]
theorem cmpI_zero {x y : Int} : cmpI x y = 0 ↔ x = y := by
  unfold cmpI
  by_cases h1 : x < y
  · simp [h1]; omega
  · by_cases h2 : y < x <;> simp [h1, h2] <;> omega
theorem ltF_iff (ks : List Int) (a b : Int) : ltF (orderF ks) a b = true ↔ rd ks a < rd ks b ∨ rd ks a = rd ks b ∧ a < b := by
  unfold ltF orderF orI
  rw [decide_eq_true_eq]
  by_cases h : cmpI (rd ks a) (rd ks b) = 0
  · rw [if_pos h, cmpI_neg]; rw [cmpI_zero] at h; omega
  · rw [if_neg h, cmpI_neg]; rw [cmpI_zero] at h; omega
theorem ltF_no (ks : List Int) (a b : Int) : ltF (orderF ks) a b = false ↔ rd ks b < rd ks a ∨ rd ks a = rd ks b ∧ b ≤ a := by
  rw [← Bool.not_eq_true, ltF_iff]; omega
theorem order_swo (ks : List Int) : Go.Sort.SWO (ltF (orderF ks)) where
  irrefl x := by rw [ltF_no]; omega
  trans x y z h1 h2 := by rw [ltF_iff] at *; omega
  ntrans x y z h1 h2 := by rw [ltF_no] at *; omega
theorem order_tri (ks : List Int) (x y : Int) (h1 : ltF (orderF ks) x y = false) (h2 : ltF (orderF ks) y x = false) : x = y := by rw [ltF_no] at *; omega
theorem asc_nodup (n : Int) (xs : List Int) (h : ∀ q : Nat, q < xs.length → okAt n xs q) : xs.Pairwise (· < ·) := by
  have step : ∀ d i : Nat, i + d + 1 < xs.length → rd xs i < rd xs ((i + d + 1 : Nat) : Int) := by
    intro d
    induction d with
    | zero =>
      intro i hi
      have := (h (i + 1) hi).2.2 (by omega)
      rw [show (((i + 1 : Nat) : Int) - 1) = (i : Int) by omega] at this
      exact this
    | succ d ih =>
      intro i hi
      have h1 := ih i (by omega)
      have := (h (i + (d + 1) + 1) hi).2.2 (by omega)
      rw [show (((i + (d + 1) + 1 : Nat) : Int) - 1) = ((i + d + 1 : Nat) : Int) by omega] at this
      omega
  rw [List.pairwise_iff_getElem]
  intro i j hi hj hij
  have := step (j - i - 1) i (by omega)
  rw [show i + (j - i - 1) + 1 = j by omega] at this
  unfold rd at this
  simpa [List.getD_eq_getElem?_getD, hi, hj] using this
theorem sortOk_of {n : Nat} {g : List Hd} (h : ValidG n g) (hn : n ≤ 25) (ks : List Int) : ∀ x ∈ g, SortOk (orderF ks) x.f1 := by
  intro x hx
  obtain ⟨j, hj, rfl⟩ := List.mem_iff_getElem.1 hx
  have hk := h.2.2.2 j hj
  have e : rd_T61 g j = g[j] := by unfold rd_T61; simp [hj]
  rw [e] at hk
  refine ⟨?_, fun _ => ⟨order_swo ks, order_tri ks, ?_⟩⟩
  · rcases asc_len n _ hk.2.2.2 with h1 | h1
    · omega
    · rw [h1]; simp
  · exact (asc_nodup n _ hk.2.2.2).imp (fun h => by omega)
def hiOk (m : Int) (xs ys : List Int) : Bool := xs.all fun x => ys.all fun y => (metric_High.f m x y).isSome
theorem hiOk_at {m : Int} {xs ys : List Int} (h : hiOk m xs ys = true) {x y : Int} (hx : x ∈ xs) (hy : y ∈ ys) : ∃ r, metric_High.f m x y = some r := by
  unfold hiOk at h
  rw [List.all_eq_true] at h
  have := h x hx
  rw [List.all_eq_true] at this
  exact Option.isSome_iff_exists.1 (this y hy)
def shortB (g : List Hd) : Bool := g.all fun h => decide (h.f1.length ≤ 4096)
theorem shortB_of {g : List Hd} (h : shortB g = true) : shortG g := by
  intro x hx
  unfold shortB at h
  rw [List.all_eq_true] at h
  have := of_decide_eq_true (h x hx)
  omega
def graph_Within.f (a0 : Int) (l1 : List (List Int)) (l2_0 : List Hd) (l3 : List Int) (a4 : Int) (a5 : Int) : Option (List Int × Int × Bool × Int) :=
  if shortB l2_0 = true then
    if Asked a0 l1 l2_0 l3 a4 ∧ 0 ≤ a5 ∧ a5 ≤ 134217728 then
      if hiOk a0 (keysV a0 l1 l3) [a5] = true then some ((withinV a0 (keysV a0 l1 l3) l2_0 a4 a5).1, (withinV a0 (keysV a0 l1 l3) l2_0 a4 a5).2.1, (withinV a0 (keysV a0 l1 l3) l2_0 a4 a5).2.2, 0) else none
    else some ([], 0, false, 1)
  else none
def graph_Nearest.f (a0 : Int) (l1 : List (List Int)) (l2_0 : List Hd) (l3 : List Int) (a4 : Int) (a5 : Int) : Option (List Int × Int × Bool × Int) :=
  if shortB l2_0 = true then
    if Asked a0 l1 l2_0 l3 a4 ∧ 1 ≤ a5 ∧ a5 ≤ 64 then
      if hiOk a0 (keysV a0 l1 l3) (keysV a0 l1 l3) = true ∧ l1.length ≤ 25 then some ((nearestV a0 (keysV a0 l1 l3) l2_0 a4 a5 l1.length).1, (nearestV a0 (keysV a0 l1 l3) l2_0 a4 a5 l1.length).2.1, (nearestV a0 (keysV a0 l1 l3) l2_0 a4 a5 l1.length).2.2, 0) else none
    else some ([], 0, false, 1)
  else none
theorem beginsNo (m : Int) (A1 : Option Addr) (c1 : Nat) (l : List (List Int)) (A2 : Option Addr) (c2 : Nat) (g : List Hd) (A3 : Option Addr) (c3 : Nat) (v : List Int) (from_ : Int) (w : World) (hr1 : Kd.C (Kd.slice 3 (Kd.int .i64)) w A1 l.length l) (hc1 : l.length ≤ c1) (hr2 : Kd.C k61 w A2 g.length g) (hc2 : g.length ≤ c2) (hr3 : Kd.C (Kd.int .i64) w A3 v.length v) (hc3 : v.length ≤ c3) (hs : shortG g) (h : ¬ Asked m l g v from_) :
    Begins false m A1 l.length c1 A2 g.length c2 #[.int .i64 m, .slice A1 l.length c1, .agg #[.slice A2 g.length c2], .slice A3 v.length c3, .int .i64 from_] w :=
  fun W hW => (beginNoC m A1 c1 l A2 c2 g A3 c3 v from_ W (Kd.C_below hr1 hW) hc1 (Kd.C_below hr2 hW) hc2 (Kd.C_below hr3 hW) hc3 hs h).mono fun _ _ ⟨he, hb⟩ => ⟨none, 0, 0, he, hb⟩
theorem beginsYes (m : Int) (A1 : Option Addr) (c1 : Nat) (l : List (List Int)) (A2 : Option Addr) (c2 : Nat) (g : List Hd) (A3 : Option Addr) (c3 : Nat) (v : List Int) (from_ : Int) (w : World) (hr1 : Kd.C (Kd.slice 3 (Kd.int .i64)) w A1 l.length l) (hc1 : l.length ≤ c1) (hr2 : Kd.C k61 w A2 g.length g) (hc2 : g.length ≤ c2) (hr3 : Kd.C (Kd.int .i64) w A3 v.length v) (hc3 : v.length ≤ c3) (hs : shortG g) (h : Asked m l g v from_) :
    Begins true m A1 l.length c1 A2 g.length c2 #[.int .i64 m, .slice A1 l.length c1, .agg #[.slice A2 g.length c2], .slice A3 v.length c3, .int .i64 from_] w :=
  have hok := begOk_of hs h
  fun W hW => (beginYes m A1 c1 l A2 c2 g A3 c3 v from_ W (Kd.C_below hr1 hW) hc1 (Kd.C_below hr2 hW) hc2 (Kd.C_below hr3 hW) hc3 hok.right hok.valid hok.one hok.alike hok.h0 hok.h1).mono fun _ _ ⟨A4, c4, he, _, hb⟩ => ⟨A4, _, c4, he, hb⟩
theorem graph_Within.calls (a0 : Int) (A1 : Option Addr) (c1 : Nat) (l1 : List (List Int)) (A2_0 : Option Addr) (c2_0 : Nat) (l2_0 : List Hd) (A3 : Option Addr) (c3 : Nat) (l3 : List Int) (a4 : Int) (a5 : Int) (r1 : List Int) (r2 : Int) (r3 : Bool) (r4 : Int) (w : World) (hr1 : Kd.C (Kd.slice 3 (Kd.int .i64)) w A1 l1.length l1) (hc1 : l1.length ≤ c1) (hr2_0 : Kd.C k61 w A2_0 l2_0.length l2_0) (hc2_0 : l2_0.length ≤ c2_0) (hr3 : Kd.C (Kd.int .i64) w A3 l3.length l3) (hc3 : l3.length ≤ c3) (h : graph_Within.f a0 l1 l2_0 l3 a4 a5 = some (r1, r2, r3, r4)) :
    Calls Tryz.prog 10 #[.int .i64 a0, .slice A1 l1.length c1, .agg #[.slice A2_0 l2_0.length c2_0], .slice A3 l3.length c3, .int .i64 a4, .int .i64 a5] w fun e w' => ∃ v0_ : Value, e = .returned (.tuple #[v0_, .int .i64 r2, .bool r3, .int .i64 r4]) ∧ Kd.R (Kd.int .i64) 3 w' w.heap.size (fun _ => True) v0_ r1 ∧ Below w.heap.size w w' := by
  unfold graph_Within.f at h
  split at h
  case isFalse => cases h
  rename_i hsb
  have hs := shortB_of hsb
  split at h
  · rename_i hA
    split at h
    case isFalse => cases h
    rename_i hh
    obtain ⟨hA, ht0, ht1⟩ := hA
    obtain ⟨rfl, h2⟩ := Prod.mk.inj (Option.some.inj h)
    obtain ⟨rfl, h3⟩ := Prod.mk.inj h2
    obtain ⟨rfl, rfl⟩ := Prod.mk.inj h3
    have hkl := keysV_length a0 l1 l3
    exact withinOkC a0 A1 c1 l1 A2_0 c2_0 l2_0 A3 c3 l3 a4 a5 w hr1 hc1 hr2_0 hc2_0 hr3 hc3 (begOk_of hs hA) ht0 ht1 (fun a h0 h1 => hiOk_at hh (rd_mem h0 (by omega)) (by simp))
  · rename_i hA
    obtain ⟨rfl, h2⟩ := Prod.mk.inj (Option.some.inj h)
    obtain ⟨rfl, h3⟩ := Prod.mk.inj h2
    obtain ⟨rfl, rfl⟩ := Prod.mk.inj h3
    by_cases hB : Asked a0 l1 l2_0 l3 a4
    · exact (withinNoC true a0 A1 _ c1 A2_0 _ c2_0 A3 _ c3 a4 a5 w (beginsYes a0 A1 c1 l1 A2_0 c2_0 l2_0 A3 c3 l3 a4 w hr1 hc1 hr2_0 hc2_0 hr3 hc3 hs hB) (fun _ => by
        by_cases h0 : a5 < 0
        · exact .inl h0
        · exact .inr (Decidable.byContradiction fun h1 => hA ⟨hB, by omega, by omega⟩))).mono fun _ _ ⟨he, hb⟩ => ⟨_, he, Kd.R_nil _ _ _ _ _, hb⟩
    · exact (withinNoC false a0 A1 _ c1 A2_0 _ c2_0 A3 _ c3 a4 a5 w (beginsNo a0 A1 c1 l1 A2_0 c2_0 l2_0 A3 c3 l3 a4 w hr1 hc1 hr2_0 hc2_0 hr3 hc3 hs hB) (fun h => by cases h)).mono fun _ _ ⟨he, hb⟩ => ⟨_, he, Kd.R_nil _ _ _ _ _, hb⟩
theorem graph_Nearest.calls (a0 : Int) (A1 : Option Addr) (c1 : Nat) (l1 : List (List Int)) (A2_0 : Option Addr) (c2_0 : Nat) (l2_0 : List Hd) (A3 : Option Addr) (c3 : Nat) (l3 : List Int) (a4 : Int) (a5 : Int) (r1 : List Int) (r2 : Int) (r3 : Bool) (r4 : Int) (w : World) (hr1 : Kd.C (Kd.slice 3 (Kd.int .i64)) w A1 l1.length l1) (hc1 : l1.length ≤ c1) (hr2_0 : Kd.C k61 w A2_0 l2_0.length l2_0) (hc2_0 : l2_0.length ≤ c2_0) (hr3 : Kd.C (Kd.int .i64) w A3 l3.length l3) (hc3 : l3.length ≤ c3) (h : graph_Nearest.f a0 l1 l2_0 l3 a4 a5 = some (r1, r2, r3, r4)) :
    Calls Tryz.prog 11 #[.int .i64 a0, .slice A1 l1.length c1, .agg #[.slice A2_0 l2_0.length c2_0], .slice A3 l3.length c3, .int .i64 a4, .int .i64 a5] w fun e w' => ∃ v0_ : Value, e = .returned (.tuple #[v0_, .int .i64 r2, .bool r3, .int .i64 r4]) ∧ Kd.R (Kd.int .i64) 3 w' w.heap.size (fun _ => True) v0_ r1 ∧ Below w.heap.size w w' := by
  unfold graph_Nearest.f at h
  split at h
  case isFalse => cases h
  rename_i hsb
  have hs := shortB_of hsb
  split at h
  · rename_i hA
    split at h
    case isFalse => cases h
    rename_i hh
    obtain ⟨hA, ht0, ht1⟩ := hA
    obtain ⟨rfl, h2⟩ := Prod.mk.inj (Option.some.inj h)
    obtain ⟨rfl, h3⟩ := Prod.mk.inj h2
    obtain ⟨rfl, rfl⟩ := Prod.mk.inj h3
    have hkl := keysV_length a0 l1 l3
    exact nearestOkC a0 A1 c1 l1 A2_0 c2_0 l2_0 A3 c3 l3 a4 a5 w hr1 hc1 hr2_0 hc2_0 hr3 hc3 (begOk_of hs hA) ht0 ht1 (sortOk_of hA.2.1 hh.2 _) (fun a b h0 h1 h2 h3 => hiOk_at hh.1 (rd_mem h0 (by omega)) (rd_mem h2 (by omega)))
  · rename_i hA
    obtain ⟨rfl, h2⟩ := Prod.mk.inj (Option.some.inj h)
    obtain ⟨rfl, h3⟩ := Prod.mk.inj h2
    obtain ⟨rfl, rfl⟩ := Prod.mk.inj h3
    by_cases hB : Asked a0 l1 l2_0 l3 a4
    · exact (nearestNoC true a0 A1 _ c1 A2_0 _ c2_0 A3 _ c3 a4 a5 w (beginsYes a0 A1 c1 l1 A2_0 c2_0 l2_0 A3 c3 l3 a4 w hr1 hc1 hr2_0 hc2_0 hr3 hc3 hs hB) (fun _ => by
        by_cases h0 : a5 < 1
        · exact .inl h0
        · exact .inr (Decidable.byContradiction fun h1 => hA ⟨hB, by omega, by omega⟩))).mono fun _ _ ⟨he, hb⟩ => ⟨_, he, Kd.R_nil _ _ _ _ _, hb⟩
    · exact (nearestNoC false a0 A1 _ c1 A2_0 _ c2_0 A3 _ c3 a4 a5 w (beginsNo a0 A1 c1 l1 A2_0 c2_0 l2_0 A3 c3 l3 a4 w hr1 hc1 hr2_0 hc2_0 hr3 hc3 hs hB) (fun h => by cases h)).mono fun _ _ ⟨he, hb⟩ => ⟨_, he, Kd.R_nil _ _ _ _ _, hb⟩
def Exact (m : Int) (l : List (List Int)) (g : List Hd) (j : Nat) : Prop := (rd_T61 g j).f1 = aroundV (keysV m l (rdL l j)) (rd_T61 g j).f0
theorem check_loop2 (m : Int) (hm : 1 ≤ m ∧ m ≤ 3) (l : List (List Int)) (hal : ∀ x ∈ l, ∀ v ∈ l, alikeF x v = true) (hl : l.length ≤ 4096) (g : List Hd) (hg : g.length = l.length) (hs : ∀ h ∈ g, h.f1.length ≤ 4096) (d : Nat) : ∀ i : Nat, i + d = l.length →
    ∃ k r, graph_Check.l0 k l g (g.length : Int) i m l = some (r, 0) ∧ (r = -1 ↔ ∀ j : Nat, i ≤ j → j < l.length → Exact m l g j) := by
  induction d with
  | zero =>
    intro i hi
    refine ⟨1, -1, ?_, ⟨fun _ j h1 h2 => by omega, fun _ => rfl⟩⟩
    unfold graph_Check.l0; rw [if_neg (by omega)]
  | succ d ih =>
    intro i hi
    obtain ⟨k, r, h1, h2⟩ := ih (i + 1) (by omega)
    have hmem : rdL l i ∈ l := rdL_mem (by omega) (by omega)
    have hkl := keysV_length m l (rdL l i)
    have hk := keys_f m hm l (rdL l i) (fun x hx => hal x hx _ hmem) hl
    have ha := around_f (keysV m l (rdL l i)) (rd_T61 g i).f0 (by omega)
    have hsl := hs _ (rd_T_mem (g := g) (i := (i : Int)) (by omega) (by omega))
    obtain ⟨k3, h4⟩ := equal_ex (rd_T61 g i).f1 (aroundV (keysV m l (rdL l i)) (rd_T61 g i).f0) hsl
    have hp := hk (k + k3 + l.length + 100) (by omega)
    have hq := ha (k + k3 + l.length + 100) (by omega)
    by_cases c : (rd_T61 g i).f1 = aroundV (keysV m l (rdL l i)) (rd_T61 g i).f0
    · refine ⟨k + k3 + l.length + 100 + 1, r, ?_, ?_⟩
      · unfold graph_Check.l0
        rw [if_pos (by omega), if_pos (by omega), if_pos (by omega), if_pos (by omega), rd_L1_eq, hp, Option.bind_some, hq, Option.bind_some, up_le (slices_Equal_int_int.mono _ _) h4 (show k3 ≤ k + k3 + l.length + 100 by omega), Option.bind_some, decide_eq_true c, if_pos rfl, w64 (by omega)]
        exact up_le (f := fun k => graph_Check.l0 k l g (g.length : Int) ((i : Int) + 1) m l) (fun k => (graph_Check.mono_l k).2 _ _ _ _ _ _) h1 (by omega)
      · rw [h2]
        exact ⟨fun h j h3 h5 => if e : j = i then e ▸ c else h j (by omega) h5, fun h j h3 h5 => h j (by omega) h5⟩
    · refine ⟨k + k3 + l.length + 100 + 1, i, ?_, ⟨fun h => by omega, fun h => absurd (h i (Nat.le_refl _) (by omega)) c⟩⟩
      unfold graph_Check.l0
      rw [if_pos (by omega), if_pos (by omega), if_pos (by omega), if_pos (by omega), rd_L1_eq, hp, Option.bind_some, hq, Option.bind_some, up_le (slices_Equal_int_int.mono _ _) h4 (show k3 ≤ k + k3 + l.length + 100 by omega), Option.bind_some, decide_eq_false c, if_neg (by simp)]
theorem validAt_up {n : Int} {g : List Hd} (hs : shortG g) (h : ValidG n g) : ∃ k, ∀ k', k ≤ k' → graph_Valid.f k' n g = some true := by
  obtain ⟨k, hk⟩ := valid_at hs h
  exact ⟨k, fun k' hk' => up_le (graph_Valid.mono _ _) hk hk'⟩
theorem check_ex (m : Int) (l : List (List Int)) (g : List Hd) (hr : rightF m l = true) (hv : ValidG l.length g) (hs : ∀ h ∈ g, h.f1.length ≤ 4096) :
    ∃ k r, (∀ k', k ≤ k' → graph_Check.f k' m l g = some (r, 0)) ∧ (r = -1 ↔ ∀ j : Nat, j < l.length → Exact m l g j) := by
  obtain ⟨hm, ⟨hl1, hl2⟩, hall⟩ := rightF_iff.1 hr
  have hgl : g.length = l.length := by have := hv.2.2.1; omega
  obtain ⟨k, r, h1, h2⟩ := check_loop2 m hm l (fun x hx v hv => alike_trans (hall x hx) (hall v hv)) hl2 g hgl hs l.length 0 (by omega)
  obtain ⟨k2, h3⟩ := validAt_up (fun h hh => Nat.le_trans (hs h hh) (by omega)) hv
  refine ⟨k + k2 + 1, r, fun k' hk' => ?_, by rw [h2]; exact ⟨fun h j hj => h j (by omega) hj, fun h j _ hj => h j hj⟩⟩
  have hright : graph_space_isRight.f m l = some (rightF m l) := rfl
  obtain ⟨q, rfl⟩ : ∃ q, k' = q + 1 := ⟨k' - 1, by omega⟩
  unfold graph_Check.f
  rw [hright, hr, Option.bind_some, if_pos rfl, h3 (q + 1) (by omega), Option.bind_some]
  show (if (!true) = true then (some (0, 1) : Option (Int × Int)) else graph_Check.l0 q l g (g.length : Int) 0 m l) = some (r, 0)
  rw [if_neg (by simp)]
  exact up_le (f := fun k => graph_Check.l0 k l g (g.length : Int) 0 m l) (fun k => (graph_Check.mono_l k).2 _ _ _ _ _ _) h1 (by omega)
theorem aroundTo_mem (ks : List Int) (t q : Int) : ∀ n : Nat, q ∈ aroundTo ks t n ↔ 0 ≤ q ∧ q < n ∧ rd ks q ≤ t
  | 0 => by simp [aroundTo]; omega
  | n + 1 => by
    simp only [aroundTo]
    by_cases c : rd ks n ≤ t
    · rw [if_pos c, List.mem_append, aroundTo_mem ks t q n, List.mem_singleton]
      constructor
      · rintro (h | rfl)
        · exact ⟨h.1, by omega, h.2.2⟩
        · exact ⟨by omega, by omega, c⟩
      · rintro ⟨h1, h2, h3⟩
        by_cases e : q = n
        · exact .inr e
        · exact .inl ⟨h1, by omega, h3⟩
    · rw [if_neg c, aroundTo_mem ks t q n]
      constructor
      · rintro ⟨h1, h2, h3⟩; exact ⟨h1, by omega, h3⟩
      · rintro ⟨h1, h2, h3⟩
        refine ⟨h1, ?_, h3⟩
        by_cases e : q = n
        · subst e; exact absurd h3 c
        · omega
theorem aroundV_mem (ks : List Int) (t q : Int) : q ∈ aroundV ks t ↔ 0 ≤ q ∧ q < ks.length ∧ rd ks q ≤ t := aroundTo_mem ks t q ks.length
theorem aroundTo_asc (ks : List Int) (t : Int) : ∀ n : Nat, (aroundTo ks t n).Pairwise (· < ·)
  | 0 => by simp [aroundTo]
  | n + 1 => by
    simp only [aroundTo]
    split
    · rw [List.pairwise_append]
      exact ⟨aroundTo_asc ks t n, by simp, fun a ha b hb => by
        have := ((aroundTo_mem ks t a n).1 ha).2.1
        simp at hb; omega⟩
    · exact aroundTo_asc ks t n
theorem okAt_of_asc {n : Int} {xs : List Int} (h : xs.Pairwise (· < ·)) (hb : ∀ x ∈ xs, 0 ≤ x ∧ x < n) (q : Nat) (hq : q < xs.length) : okAt n xs q := by
  have e : ∀ i : Nat, i < xs.length → rd xs i = xs[i]! := by intro i hi; simp [rd, List.getD_eq_getElem?_getD, hi]
  have hm := hb _ (rd_mem (l := xs) (i := (q : Int)) (by omega) (by omega))
  refine ⟨hm.1, hm.2, fun h0 => ?_⟩
  rw [show ((q : Int) - 1) = ((q - 1 : Nat) : Int) by omega, e _ (by omega), e _ hq]
  have := (List.pairwise_iff_getElem.1 h) (q - 1) q (by omega) hq (by omega)
  simpa [hq, show q - 1 < xs.length by omega] using this
theorem fold_zero (m : Int) : ∀ (xs : List Int), (∀ x ∈ xs, x = 0) → xs.foldl (stepN m) 0 = 0
  | [], _ => rfl
  | x :: r, h => by
    have hx := h x (by simp)
    subst hx
    rw [List.foldl_cons, show stepN m 0 0 = 0 by unfold stepN mx; simp]
    exact fold_zero m r fun y hy => h y (by simp [hy])
theorem keyV_self (m : Int) (x : List Int) : keyV m x x = 0 := by
  unfold keyV normF
  refine fold_zero m _ fun y hy => ?_
  unfold subV at hy
  obtain ⟨i, hi, rfl⟩ := List.mem_iff_getElem.1 hy
  simp
theorem hoods_at (m : Int) (l : List (List Int)) (want : Int) (j : Nat) (hj : j < l.length) : rd_T61 (hoodsV m l want l.length) j = hoodV m l want (rdL l j) := by
  unfold rd_T61 hoodsV
  simp [hj, rdL]
theorem hoods_len (m : Int) (l : List (List Int)) (want : Int) : (hoodsV m l want l.length).length = l.length := by simp [hoodsV]
theorem mn_in {want : Int} {n : Nat} (hw : 1 ≤ want) (hn : 1 ≤ n) : 0 ≤ mn want n - 1 ∧ mn want n - 1 < n := by unfold mn; split <;> omega
theorem rad_mem (m : Int) (l : List (List Int)) (want : Int) (hw : 1 ≤ want) (hl : 1 ≤ l.length) (v : List Int) : rd (sortI (keysV m l v)) (mn want l.length - 1) ∈ keysV m l v := by
  obtain ⟨h1, h2⟩ := mn_in hw hl
  exact (sortI_perm _).mem_iff.1 (rd_mem h1 (by rw [sortI_length, keysV_length]; exact h2))
theorem hoods_valid (m : Int) (l : List (List Int)) (want : Int) (hr : rightF m l = true) (hw : 1 ≤ want) : ValidG l.length (hoodsV m l want l.length) := by
  obtain ⟨hm, ⟨hl1, hl2⟩, hall⟩ := rightF_iff.1 hr
  have hal : ∀ x ∈ l, ∀ v ∈ l, alikeF x v = true := fun x hx v hv => alike_trans (hall x hx) (hall v hv)
  refine ⟨by omega, by omega, by rw [hoods_len], fun j hj => ?_⟩
  rw [hoods_len] at hj
  rw [hoods_at m l want j hj]
  have hmem : rdL l j ∈ l := rdL_mem (by omega) (by omega)
  have hkl := keysV_length m l (rdL l j)
  have hbd : ∀ y ∈ keysV m l (rdL l j), 0 ≤ y ∧ y ≤ 134217728 := by
    intro y hy
    unfold keysV at hy
    obtain ⟨x, hx, rfl⟩ := List.mem_map.1 hy
    exact keyV_bd m _ _ (hal x hx _ hmem)
  obtain ⟨r0, r1⟩ := hbd _ (rad_mem m l want hw hl1 (rdL l j))
  refine ⟨r0, r1, ?_, fun q hq => okAt_of_asc (aroundTo_asc _ _ _) (fun x hx => ?_) q hq⟩
  · refine (aroundV_mem _ _ _).2 ⟨by omega, by omega, ?_⟩
    rw [rd_keysV m l (rdL l j) j (by omega) (by omega), keyV_self]
    exact r0
  · have := (aroundTo_mem _ _ _ _).1 hx
    rw [hkl] at this
    exact ⟨this.1, this.2.1⟩
theorem hoods_exact (m : Int) (l : List (List Int)) (want : Int) (j : Nat) (hj : j < l.length) : Exact m l (hoodsV m l want l.length) j := by
  unfold Exact
  rw [hoods_at m l want j hj]
  rfl
theorem build_ok (m : Int) (l : List (List Int)) (want : Int) (hr : rightF m l = true) (h1 : 1 ≤ want) (h2 : want ≤ 4096) : graph_Build.f m l want = some (hoodsV m l want l.length, 0) := by
  unfold graph_Build.f
  rw [if_pos ⟨hr, h1, h2⟩]
theorem hoods_few (m : Int) (l : List (List Int)) (want : Int) (hl : l.length ≤ 4096) : ∀ h ∈ hoodsV m l want l.length, h.f1.length ≤ l.length := by
  intro h hh
  unfold hoodsV at hh
  obtain ⟨v, _, rfl⟩ := List.mem_map.1 hh
  have := aroundTo_length (keysV m l v) (rd (sortI (keysV m l v)) (mn want l.length - 1)) (keysV m l v).length
  rw [keysV_length] at this
  show (aroundTo _ _ _).length ≤ _
  rw [keysV_length]
  exact this
theorem root_ex (n : Nat) : ∃ s : Nat, s * s ≤ n ∧ n < (s + 1) * (s + 1) := by
  induction n with
  | zero => exact ⟨0, by omega, by omega⟩
  | succ n ih =>
    obtain ⟨s, h1, h2⟩ := ih
    by_cases h : (s + 1) * (s + 1) ≤ n + 1
    · refine ⟨s + 1, h, ?_⟩
      have : (s + 1 + 1) * (s + 1 + 1) = (s + 1) * (s + 1) + 2 * (s + 1) + 1 := by
        rw [Nat.add_mul, Nat.mul_add]; omega
      omega
    · exact ⟨s, by omega, by omega⟩
theorem newton (n s x : Int) (hs0 : 0 ≤ s) (h1 : s * s ≤ n) (h2 : n < (s + 1) * (s + 1)) (hx : s ≤ x) (hx1 : 1 ≤ x) :
    s ≤ (x + n / x) / 2 ∧ (s < x → (x + n / x) / 2 < x ∧ 2 * ((x + n / x) / 2 - s) ≤ x - s) ∧ (x = s → x ≤ (x + n / x) / 2) := by
  have hn : 0 ≤ n := by have := Int.mul_nonneg hs0 hs0; omega
  have q1 : n / x * x ≤ n := Int.ediv_mul_le n (by omega)
  have q2 : n < (n / x + 1) * x := Int.lt_ediv_add_one_mul_self n (by omega)
  generalize n / x = q at q1 q2 ⊢
  have hlow : 2 * s ≤ x + q := by
    apply Decidable.byContradiction
    intro h
    have e1 : (q + 1) * x ≤ (2 * s - x) * x := Int.mul_le_mul_of_nonneg_right (by omega) (by omega)
    have e2 : s * s - (2 * s - x) * x = (x - s) * (x - s) := by
      simp only [Int.sub_mul, Int.mul_sub, Int.mul_assoc]
      have := Int.mul_comm s x
      omega
    have e3 : 0 ≤ (x - s) * (x - s) := Int.mul_nonneg (by omega) (by omega)
    omega
  refine ⟨by omega, fun hlt => ?_, fun he => ?_⟩
  · have hq : q ≤ s := by
      apply Decidable.byContradiction
      intro h
      have e1 : (s + 1) * (s + 1) ≤ (s + 1) * x := Int.mul_le_mul_of_nonneg_left (by omega) (by omega)
      have e2 : (s + 1) * x ≤ q * x := Int.mul_le_mul_of_nonneg_right (by omega) (by omega)
      omega
    omega
  · subst he; omega
theorem isqrt_l0 (n s : Int) (hs0 : 0 ≤ s) (h1 : s * s ≤ n) (h2 : n < (s + 1) * (s + 1)) (hn0 : 1 ≤ n) (hn : n ≤ 72057594037927936) : ∀ (j k : Nat) (x : Int), s ≤ x → 1 ≤ x → x ≤ 1073741824 → x - s < 2 ^ j → j < k → metric_Isqrt.l0 k n x = some s := by
  have step : ∀ x : Int, 1 ≤ x → x ≤ 1073741824 → wrap64 (Int.tdiv (wrap64 (x + (wrap64 (Int.tdiv n x)))) 2) = (x + n / x) / 2 := by
    intro x hx1 hx2
    have hq0 : 0 ≤ n / x := Int.ediv_nonneg (by omega) (by omega)
    have hq1 : n / x ≤ n := Int.ediv_le_self _ (by omega)
    have e0 : Int.tdiv n x = n / x := Int.tdiv_eq_ediv_of_nonneg (by omega)
    rw [e0, w64 (i := n / x) (by omega), w64 (i := x + n / x) (by omega), Int.tdiv_eq_ediv_of_nonneg (by omega), w64 (by omega)]
  intro j
  induction j with
  | zero =>
    intro k x hx hx1 hx2 he hk
    obtain ⟨k, rfl⟩ : ∃ m, k = m + 1 := ⟨k - 1, by omega⟩
    have hxs : x = s := by simp at he; omega
    obtain ⟨_, _, h3⟩ := newton n s x hs0 h1 h2 hx hx1
    rw [metric_Isqrt.l0, step x hx1 hx2, if_neg (by omega), if_pos (h3 hxs), hxs]
  | succ j ih =>
    intro k x hx hx1 hx2 he hk
    obtain ⟨k, rfl⟩ : ∃ m, k = m + 1 := ⟨k - 1, by omega⟩
    obtain ⟨h3, h4, h5⟩ := newton n s x hs0 h1 h2 hx hx1
    by_cases hlt : s < x
    · obtain ⟨h6, h7⟩ := h4 hlt
      rw [metric_Isqrt.l0, step x hx1 hx2, if_neg (by omega), if_neg (by omega)]
      have hs1 : 1 ≤ s := by
        apply Decidable.byContradiction
        intro h
        have e : s = 0 := by omega
        subst e
        simp at h2
        omega
      refine ih k _ h3 (by omega) (by omega) ?_ (by omega)
      rw [Int.pow_succ] at he
      omega
    · have hxs : x = s := by omega
      rw [metric_Isqrt.l0, step x hx1 hx2, if_neg (by omega), if_pos (h5 hxs), hxs]
theorem bitLenAux_spec : ∀ (f x : Nat), x < 2 ^ f → x < 2 ^ Lib.bitLenAux f x ∧ ∀ j, x < 2 ^ j → Lib.bitLenAux f x ≤ j
  | 0, x, h => by simp [Lib.bitLenAux] at *; omega
  | f + 1, x, h => by
    unfold Lib.bitLenAux
    by_cases hx : x = 0
    · subst hx; simp
    · rw [if_neg hx]
      have h' : x / 2 < 2 ^ f := by rw [Nat.pow_succ] at h; omega
      obtain ⟨h1, h2⟩ := bitLenAux_spec f (x / 2) h'
      refine ⟨by rw [Nat.add_comm, Nat.pow_succ]; omega, fun j hj => ?_⟩
      cases j with
      | zero => simp at hj; omega
      | succ j =>
        have := h2 j (by rw [Nat.pow_succ] at hj; omega)
        omega
theorem shl_pow : ∀ k : Nat, k ≤ 30 → shl .i64 1 (k : Int) = 2 ^ k := by decide +kernel
theorem isqrt_f (n : Int) (h0 : 0 ≤ n) (h : n ≤ 72057594037927936) (K : Nat) (hK : 40 ≤ K) : ∃ s : Int, metric_Isqrt.f K n = some s ∧ 0 ≤ s ∧ s * s ≤ n ∧ n < (s + 1) * (s + 1) := by
  obtain ⟨s, h1, h2⟩ := root_ex n.toNat
  have e1 : (s : Int) * s ≤ n := by
    have h3 := Int.ofNat_le.2 h1
    rw [Int.natCast_mul, Int.toNat_of_nonneg h0] at h3
    exact h3
  have e2 : n < ((s : Int) + 1) * ((s : Int) + 1) := by
    have h3 := Int.ofNat_lt.2 h2
    rw [Int.natCast_mul, Int.toNat_of_nonneg h0, Int.natCast_add] at h3
    exact h3
  refine ⟨s, ?_, by omega, e1, e2⟩
  have hcl : metric_clamp_int.f n 0 1152921504606846976 = some n := by
    unfold metric_clamp_int.f mx mn
    simp <;> omega
  unfold metric_Isqrt.f
  rw [hcl, Option.bind_some]
  by_cases hz : n = 0
  · subst hz
    rw [if_pos rfl]
    have : s = 0 := by
      apply Decidable.byContradiction
      intro hs
      have := Nat.mul_pos (show 0 < s by omega) (show 0 < s by omega)
      simp at h1
      omega
    rw [this]; rfl
  · rw [if_neg hz, show IntKind.u64.wrap n = n from IntWalk.u64_in n (by omega)]
    unfold bits_Len.f
    rw [if_pos (by omega), Option.bind_some]
    obtain ⟨b1, b2⟩ := bitLenAux_spec 64 n.toNat (by omega)
    have b3 := b2 57 (by omega)
    have b3' : Lib.bitLen n.toNat ≤ 57 := b3
    have b1' : n.toNat < 2 ^ Lib.bitLen n.toNat := b1
    generalize Lib.bitLen n.toNat = b at b1' b3' ⊢
    obtain ⟨q, hq⟩ : ∃ q, q = (b + 1) / 2 := ⟨_, rfl⟩
    have hq29 : q ≤ 29 := by omega
    have hq30 : q ≤ 30 := by omega
    have e3 : wrap64 (Int.tdiv (wrap64 ((b : Int) + 1)) 2) = (q : Int) := by
      rw [w64 (i := (b : Int) + 1) (by omega), Int.tdiv_eq_ediv_of_nonneg (by omega), w64 (by omega)]; omega
    have e4 : (0 : Int) ≤ (q : Int) := Int.natCast_nonneg q
    rewrite [e3, if_pos e4, shl_pow q hq30]
    clear e3 e4
    have hpow : (2 : Nat) ^ q ≤ 2 ^ 29 := Nat.pow_le_pow_right (by omega) hq29
    have hp1 : 1 ≤ (2 : Nat) ^ q := Nat.one_le_two_pow
    have hbig : n.toNat < 2 ^ q * 2 ^ q := by
      rw [← Nat.pow_add]
      exact Nat.lt_of_lt_of_le b1' (Nat.pow_le_pow_right (by omega) (by omega))
    have hcast : ((2 : Int) ^ q) = ((2 ^ q : Nat) : Int) := by simp
    rewrite [hcast]
    generalize (2 : Nat) ^ q = X at hpow hp1 hbig ⊢
    have hsx : s ≤ X := by
      apply Decidable.byContradiction
      intro hc
      have : X * X ≤ s * s := Nat.mul_le_mul (by omega) (by omega)
      omega
    have hp : (2 : Int) ^ 30 = 1073741824 := by decide
    have hr := isqrt_l0 n s (by omega) e1 e2 (by omega) h 30 K X (by omega) (by omega) (by omega) (by rw [hp]; omega) (by omega)
    exact hr
theorem mul_key {a b : Int} (ha0 : 0 ≤ a) (ha1 : a ≤ 134217728) (hb0 : 0 ≤ b) (hb1 : b ≤ 134217728) : 0 ≤ 4 * a * b ∧ 4 * a * b ≤ 72057594037927936 := by
  have h1 : 0 ≤ a * b := Int.mul_nonneg ha0 hb0
  have h2 : a * b ≤ 134217728 * b := Int.mul_le_mul_of_nonneg_right ha1 hb0
  have h3 : 4 * a * b = 4 * (a * b) := Int.mul_assoc ..
  omega
theorem high_ex (m : Int) {a b : Int} (ha0 : 0 ≤ a) (ha1 : a ≤ 134217728) (hb0 : 0 ≤ b) (hb1 : b ≤ 134217728) :
    ∃ s : Int, 0 ≤ s ∧ s * s ≤ 4 * a * b ∧ 4 * a * b < (s + 1) * (s + 1) ∧ metric_High.f m a b = some (if m = 2 then mn (a + b + s) 134217728 else mn (a + b) 134217728) := by
  obtain ⟨h1, h2⟩ := mul_key ha0 ha1 hb0 hb1
  obtain ⟨s, h3, h4, h5, h6⟩ := isqrt_f (4 * a * b) h1 h2 100 (by omega)
  refine ⟨s, h4, h5, h6, ?_⟩
  have hs : s ≤ 1152921504606846976 := by
    apply Decidable.byContradiction
    intro hc
    have : s * 1 ≤ s * s := Int.mul_le_mul_of_nonneg_left (by omega) (by omega)
    omega
  unfold metric_High.f keyB
  rw [if_pos ⟨by simpa using ⟨ha0, ha1⟩, by simpa using ⟨hb0, hb1⟩⟩]
  by_cases hm : m = 2
  · rw [if_pos hm, if_pos hm, h3, Option.bind_some, if_pos ⟨h4, hs⟩]
  · rw [if_neg hm, if_neg hm]
theorem alike04_ex (a b : List Int) (ha : a.length ≤ 9223372036854775807) (hb : b.length ≤ 9223372036854775807) : ∃ k, ∀ k', k ≤ k' → antiquaryref04_Alike.f k' a b = some (alikeF a b) := by
  obtain ⟨k1, h1⟩ := valid04_ex a ha
  obtain ⟨k2, h2⟩ := valid04_ex b hb
  refine ⟨k1 + k2, fun k' hk' => ?_⟩
  unfold antiquaryref04_Alike.f
  rw [up_le (antiquaryref04_Valid.mono _) h1 (show k1 ≤ k' by omega), Option.bind_some]
  cases c1 : validV a with
  | false =>
    rw [if_neg (by simp)]
    congr 1; symm; rw [← Bool.not_eq_true, alikeF_iff, c1]; simp
  | true =>
    rw [if_pos rfl, up_le (antiquaryref04_Valid.mono _) h2 (show k2 ≤ k' by omega), Option.bind_some]
    cases c2 : validV b with
    | false =>
      rw [if_neg (by simp)]
      congr 1; symm; rw [← Bool.not_eq_true, alikeF_iff, c2]; simp
    | true =>
      rw [if_pos rfl]
      congr 1
      rw [Bool.eq_iff_iff, alikeF_iff, c1, c2, beq_int_nat, decide_eq_true_eq]; simp
theorem keysV_bd {m : Int} {l : List (List Int)} {v : List Int} (h : ∀ x ∈ l, alikeF x v = true) : ∀ y ∈ keysV m l v, 0 ≤ y ∧ y ≤ 134217728 := by
  intro y hy
  unfold keysV at hy
  obtain ⟨x, hx, rfl⟩ := List.mem_map.1 hy
  exact keyV_bd m _ _ (h x hx)
theorem hiOk_of {m : Int} {xs ys : List Int} (hx : ∀ y ∈ xs, 0 ≤ y ∧ y ≤ 134217728) (hy : ∀ y ∈ ys, 0 ≤ y ∧ y ≤ 134217728) : hiOk m xs ys = true := by
  unfold hiOk
  rw [List.all_eq_true]
  intro x h1
  rw [List.all_eq_true]
  intro y h2
  obtain ⟨s, _, _, _, h⟩ := high_ex m (hx x h1).1 (hx x h1).2 (hy y h2).1 (hy y h2).2
  rw [h]; rfl
theorem alike_all {m : Int} {l : List (List Int)} {v : List Int} (hr : rightF m l = true) (ha : alikeF (rdL l 0) v = true) : ∀ x ∈ l, alikeF x v = true := by
  intro x hx
  obtain ⟨_, _, hall⟩ := rightF_iff.1 hr
  exact alike_trans (hall x hx) ha
theorem shortB_mk {g : List Hd} (h : ∀ x ∈ g, x.f1.length ≤ 4096) : shortB g = true := by
  unfold shortB
  rw [List.all_eq_true]
  exact fun x hx => decide_eq_true (h x hx)
def addV (u w : List Int) : List Int := List.zipWith (fun x y => x + y) u w
theorem subV_add : ∀ (a b c : List Int), a.length = b.length → b.length = c.length → subV a c = addV (subV a b) (subV b c)
  | [], _, _, _, _ => by simp [subV, addV]
  | x :: a, [], _, h, _ => by simp at h
  | x :: a, y :: b, [], _, h => by simp at h
  | x :: a, y :: b, z :: c, h1, h2 => by
    have := subV_add a b c (by simpa using h1) (by simpa using h2)
    unfold subV addV at this ⊢
    simp only [List.zipWith_cons_cons, this]
    congr 1
    omega
def absS : List Int → Int
  | [] => 0
  | x :: r => mx x (-x) + absS r
def sqS : List Int → Int
  | [] => 0
  | x :: r => x * x + sqS r
def dotS : List Int → List Int → Int
  | x :: u, y :: w => x * y + dotS u w
  | _, _ => 0
theorem fold1 (xs : List Int) : ∀ n, xs.foldl (stepN 1) n = n + absS xs := by
  induction xs with
  | nil => intro n; simp [absS]
  | cons x r ih => intro n; rw [List.foldl_cons, ih, absS]; simp only [stepN, if_true]; omega
theorem step2 (n x : Int) : stepN 2 n x = n + x * x := by unfold stepN; rw [if_neg (by omega), if_pos rfl]
theorem fold2 (xs : List Int) : ∀ n, xs.foldl (stepN 2) n = n + sqS xs := by
  induction xs with
  | nil => intro n; simp [sqS]
  | cons x r ih => intro n; rw [List.foldl_cons, ih, sqS, step2]; omega
theorem step3 (n x : Int) : stepN 3 n x = mx (mx n x) (-x) := by unfold stepN; rw [if_neg (by omega), if_neg (by omega)]
theorem mx_le {a b c : Int} : mx a b ≤ c ↔ a ≤ c ∧ b ≤ c := by unfold mx; split <;> omega
theorem le_mx (a b : Int) : a ≤ mx a b ∧ b ≤ mx a b := by unfold mx; split <;> omega
theorem fold3_le (xs : List Int) (B : Int) : ∀ n, n ≤ B → (∀ x ∈ xs, x ≤ B ∧ -x ≤ B) → xs.foldl (stepN 3) n ≤ B := by
  induction xs with
  | nil => intro n h _; exact h
  | cons x r ih =>
    intro n h hx
    rw [List.foldl_cons]
    have := hx x (by simp)
    exact ih _ (by rw [step3, mx_le, mx_le]; exact ⟨⟨h, this.1⟩, this.2⟩) fun y hy => hx y (by simp [hy])
theorem fold3_ge (xs : List Int) : ∀ n, n ≤ xs.foldl (stepN 3) n ∧ ∀ x ∈ xs, x ≤ xs.foldl (stepN 3) n ∧ -x ≤ xs.foldl (stepN 3) n := by
  induction xs with
  | nil => intro n; exact ⟨Int.le_refl _, fun x hx => by simp at hx⟩
  | cons x r ih =>
    intro n
    rw [List.foldl_cons]
    obtain ⟨h1, h2⟩ := ih (stepN 3 n x)
    have h3 := le_mx (mx n x) (-x)
    have h4 := le_mx n x
    rw [← step3] at h3
    refine ⟨by omega, fun y hy => ?_⟩
    rcases List.mem_cons.1 hy with rfl | hy
    · omega
    · exact h2 y hy
theorem abs_add : ∀ u w : List Int, u.length = w.length → absS (addV u w) ≤ absS u + absS w
  | [], _, _ => by
    rename_i w h
    cases w with
    | nil => simp [addV, absS]
    | cons _ _ => simp at h
  | x :: u, [], h => by simp at h
  | x :: u, y :: w, h => by
    have := abs_add u w (by simpa using h)
    unfold addV at this ⊢
    simp only [List.zipWith_cons_cons, absS]
    have e : mx (x + y) (-(x + y)) ≤ mx x (-x) + mx y (-y) := by unfold mx; split <;> split <;> split <;> omega
    omega
theorem sq_nonneg' (x : Int) : 0 ≤ x * x := by
  rcases Int.le_total 0 x with h | h
  · exact Int.mul_nonneg h h
  · have := Int.mul_nonneg (show 0 ≤ -x by omega) (show 0 ≤ -x by omega)
    rwa [Int.neg_mul_neg] at this
theorem sqS_nonneg : ∀ u : List Int, 0 ≤ sqS u
  | [] => by simp [sqS]
  | x :: u => by have := sqS_nonneg u; have := sq_nonneg' x; rw [sqS]; omega
theorem sq_add : ∀ u w : List Int, u.length = w.length → sqS (addV u w) = sqS u + sqS w + 2 * dotS u w
  | [], [], _ => by simp [addV, sqS, dotS]
  | [], _ :: _, h => by simp at h
  | x :: u, [], h => by simp at h
  | x :: u, y :: w, h => by
    have := sq_add u w (by simpa using h)
    unfold addV at this ⊢
    simp only [List.zipWith_cons_cons, sqS, dotS, this]
    have e : (x + y) * (x + y) = x * x + y * y + 2 * (x * y) := by
      rw [Int.add_mul, Int.mul_add, Int.mul_add, Int.mul_comm y x]; omega
    rw [e]; omega
theorem cauchy : ∀ u w : List Int, u.length = w.length → dotS u w * dotS u w ≤ sqS u * sqS w
  | [], [], _ => by simp [sqS, dotS]
  | [], _ :: _, h => by simp at h
  | x :: u, [], h => by simp at h
  | x :: u, y :: w, h => by
    have hc := cauchy u w (by simpa using h)
    have ha := sqS_nonneg u
    have hb := sqS_nonneg w
    simp only [sqS, dotS]
    generalize dotS u w = c at hc ⊢
    generalize sqS u = a at hc ha ⊢
    generalize sqS w = b at hc hb ⊢
    have hmid : c * (x * y) + c * (x * y) ≤ a * (y * y) + b * (x * x) := by
      by_cases hz : a = 0
      · subst hz
        have hc0 : c = 0 := by
          apply Decidable.byContradiction
          intro hne
          have h1 := sq_nonneg' c
          have h2 : 0 < c * c := by
            rcases Int.lt_or_gt_of_ne hne with h | h
            · have := Int.mul_pos (show 0 < -c by omega) (show 0 < -c by omega); rwa [Int.neg_mul_neg] at this
            · exact Int.mul_pos h h
          rw [Int.zero_mul] at hc
          omega
        subst hc0
        have := Int.mul_nonneg hb (sq_nonneg' x)
        rw [Int.zero_mul, Int.zero_mul]
        omega
      · have ha1 : 0 < a := by omega
        have h1 := sq_nonneg' (a * y - c * x)
        have h2 : 0 ≤ (a * b - c * c) * (x * x) := Int.mul_nonneg (by omega) (sq_nonneg' x)
        have e : a * (a * (y * y) + b * (x * x) - (c * (x * y) + c * (x * y))) = (a * y - c * x) * (a * y - c * x) + (a * b - c * c) * (x * x) := by
          have q1 : a * y * (a * y) = a * (a * (y * y)) := by rw [Int.mul_assoc, Int.mul_left_comm y a y]
          have q2 : a * y * (c * x) = a * (c * (x * y)) := by rw [Int.mul_assoc, Int.mul_left_comm y c x, Int.mul_comm y x]
          have q3 : c * x * (a * y) = a * (c * (x * y)) := by rw [Int.mul_comm (c * x) (a * y), q2]
          have q4 : c * x * (c * x) = c * c * (x * x) := by rw [Int.mul_assoc, Int.mul_left_comm x c x, ← Int.mul_assoc]
          have q5 : a * b * (x * x) = a * (b * (x * x)) := Int.mul_assoc ..
          rw [Int.sub_mul, Int.mul_sub, Int.mul_sub, Int.sub_mul, Int.mul_sub, Int.mul_add, Int.mul_add, q1, q2, q3, q4, q5]
          omega
        have h3 : 0 ≤ a * (a * (y * y) + b * (x * x) - (c * (x * y) + c * (x * y))) := by rw [e]; omega
        have h4 := Int.nonneg_of_mul_nonneg_right h3 ha1
        omega
    have e1 : (x * y + c) * (x * y + c) = (x * y) * (x * y) + (c * (x * y) + c * (x * y)) + c * c := by
      rw [Int.add_mul, Int.mul_add, Int.mul_add, Int.mul_comm (x * y) c]; omega
    have e2 : (x * x + a) * (y * y + b) = (x * y) * (x * y) + (a * (y * y) + b * (x * x)) + a * b := by
      rw [Int.add_mul, Int.mul_add, Int.mul_add]
      have : x * x * (y * y) = x * y * (x * y) := by simp only [Int.mul_assoc, Int.mul_left_comm, Int.mul_comm]
      have h5 : x * x * b = b * (x * x) := Int.mul_comm _ _
      omega
    rw [e1, e2]
    omega
theorem tri (m : Int) (hm : 1 ≤ m ∧ m ≤ 3) (a b c : List Int) (h1 : alikeF a b = true) (h2 : alikeF b c = true) (t s : Int) (ht : keyV m b c ≤ t) (hs0 : 0 ≤ s) (hs : 4 * keyV m a b * t < (s + 1) * (s + 1)) :
    keyV m a c ≤ if m = 2 then keyV m a b + t + s else keyV m a b + t := by
  obtain ⟨l1, _, _⟩ := alikeF_iff.1 h1
  obtain ⟨l2, _, _⟩ := alikeF_iff.1 h2
  have hu : (subV a b).length = (subV b c).length := by rw [subV_length a b l1, subV_length b c l2, l1]
  have k1 := (keyV_bd m a b h1).1
  have k2 := (keyV_bd m b c h2).1
  have e := subV_add a b c l1 l2
  have hm3 : m = 1 ∨ m = 2 ∨ m = 3 := by omega
  rcases hm3 with rfl | rfl | rfl
  · rw [if_neg (by omega)]
    unfold keyV normF at *
    rw [fold1] at *
    have := abs_add (subV a b) (subV b c) hu
    rw [← e] at this
    rw [fold1] at *
    omega
  · rw [if_pos rfl]
    unfold keyV normF at *
    simp only [fold2, Int.zero_add] at *
    have h3 := sq_add (subV a b) (subV b c) hu
    rw [← e] at h3
    have h4 := cauchy (subV a b) (subV b c) hu
    rw [h3]
    generalize sqS (subV a b) = A at *
    generalize sqS (subV b c) = B at *
    generalize dotS (subV a b) (subV b c) = C at *
    have h5 : 2 * C ≤ s := by
      apply Decidable.byContradiction
      intro hn
      have h6 : A * B ≤ A * t := Int.mul_le_mul_of_nonneg_left ht k1
      have h7 : (s + 1) * (s + 1) ≤ (2 * C) * (2 * C) := Int.mul_le_mul (by omega) (by omega) (by omega) (by omega)
      have h8 : (2 * C) * (2 * C) = 4 * (C * C) := by rw [Int.mul_assoc, Int.mul_left_comm C 2 C]; omega
      have h9 : 4 * A * t = 4 * (A * t) := Int.mul_assoc ..
      omega
    omega
  · rw [if_neg (by omega)]
    unfold keyV normF at *
    rw [e]
    obtain ⟨g1, g2⟩ := fold3_ge (subV a b) 0
    obtain ⟨g3, g4⟩ := fold3_ge (subV b c) 0
    refine fold3_le _ _ _ (by omega) fun x hx => ?_
    unfold addV at hx
    obtain ⟨i, hi, rfl⟩ := List.mem_iff_getElem.1 hx
    simp only [List.length_zipWith] at hi
    rw [List.getElem_zipWith]
    have m1 := g2 _ (List.getElem_mem (l := subV a b) (n := i) (by omega))
    have m2 := g4 _ (List.getElem_mem (l := subV b c) (n := i) (by omega))
    omega
end Go.Proofs.YthbkomkgciemiaaGreat.PKF
