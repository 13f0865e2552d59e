/- Texts of this claim, merged: part 11. -/
import Derived.Test.YthbkomkgciemiaaGreatCA3
import Derived.Test.YthbkomkgciemiaaGreatCA9
import Derived.Test.YthbkomkgciemiaaGreatCA10
import Derived.Test.YthbkomkgciemiaaGreatCA5
import Derived.Test.YthbkomkgciemiaaGreatCA4
import Derived.Test.YthbkomkgciemiaaGreatCA6
namespace Go.Proofs.YthbkomkgciemiaaGreat.PKF
open Go.RowKit Go.Proofs.YthbkomkgciemiaaGreatW.PrintWords Go.Proofs.YthbkomkgciemiaaGreatW.PrintLast Go.Proofs.YthbkomkgciemiaaGreatW.PrintMore
attribute [local go_sem] max2_int min2_int max_two min_two max_three min_three max_four min_four   -- for this text's walks alone
set_option linter.unusedVariables false
set_option linter.unusedSimpArgs false
def antiquaryref27_Walk.l0 : Nat → Int → List (List Int) → List Int → List Int → List (S61) → Option (List Int × Int × Bool × Int)
 | 0, _, _, _, _, _ => none
 | k + 1, x0, x1, x3, x12, x191000 => if 0 ≤ (wrap64 ((x12.length : Int) - 1)) then (if (wrap64 ((x12.length : Int) - 1)) < (x12.length : Int) then (if 0 ≤ (rd x12 (wrap64 ((x12.length : Int) - 1))) then (if (rd x12 (wrap64 ((x12.length : Int) - 1))) < (x191000.length : Int) then ((antiquaryref27_Order.f k x0 x1 x3 ((rd_T61 x191000 (rd x12 (wrap64 ((x12.length : Int) - 1)))).f1)).bind fun t198 => (if 0 < (t198.length : Int) then (if 0 ≤ (rd t198 0) then (if (rd t198 0) < (x1.length : Int) then ((antiquaryref04_Key.f k x0 (rd_L1 x1 (rd t198 0)) x3).bind fun t203 => (if (rd x12 (wrap64 ((x12.length : Int) - 1))) < (x1.length : Int) then ((antiquaryref04_Key.f k x0 (rd_L1 x1 (rd x12 (wrap64 ((x12.length : Int) - 1)))) x3).bind fun t205 => (if t203 ≥ t205 then (some (x12, 0, false, 0)) else (if x12.length < 17592186044416 then (antiquaryref27_Walk.l0 k x0 x1 x3 (x12 ++ [rd t198 0]) x191000) else (none)))) else (none))) else (none)) else (none)) else (none))) else (none)) else (none)) else (none)) else (none)
def antiquaryref27_Walk.f (k : Nat) (a0 : Int) (l1 : List (List Int)) (l2_0 : List (S61)) (l3 : List Int) (a4 : Int) : Option (List Int × Int × Bool × Int) := (antiquaryref27_asked.f k a0 l1 l2_0 l3 a4).bind fun t192 => (if t192 = true then (antiquaryref27_Walk.l0 k a0 l1 l3 (([a4] : List Int)) l2_0) else (some (([] : List Int), 0, false, 1)))
theorem antiquaryref27_Walk.mono_l : ∀ k, (∀ y0 y1 y2 y3 y4, LeO (antiquaryref27_Walk.l0 k y0 y1 y2 y3 y4) (antiquaryref27_Walk.l0 (k + 1) y0 y1 y2 y3 y4))
 | 0 => fun _ _ _ _ _ r h => by simp [antiquaryref27_Walk.l0] at h
 | k + 1 => by
  have ih0 := antiquaryref27_Walk.mono_l k
  ·intro y0 y1 y2 y3 y4
   unfold antiquaryref27_Walk.l0
   repeat' first
   | (with_reducible exact ih0 _ _ _ _ _)
   | (with_reducible exact antiquaryref04_Key.mono _ _ _ _)
   | (with_reducible exact antiquaryref27_Order.mono _ _ _ _ _)
   | (with_reducible exact antiquaryref27_asked.mono _ _ _ _ _ _)
   | (with_reducible exact LeO.refl _)
   | (with_reducible exact LeO.none _)
   | (with_reducible refine LeO.ite ?_ ?_)
   | (with_reducible refine LeO.bind ?_ (fun _ => ?_))
   | exact ih0 _ _ _ _ _
   | exact antiquaryref04_Key.mono _ _ _ _
   | exact antiquaryref27_Order.mono _ _ _ _ _
   | exact antiquaryref27_asked.mono _ _ _ _ _ _
   | exact LeO.none _
   | refine LeO.ite ?_ ?_
   | refine LeO.bind ?_ (fun _ => ?_)
theorem antiquaryref27_Walk.mono : ∀ a0 a1 a2 a3 a4 k, LeO (antiquaryref27_Walk.f k a0 a1 a2 a3 a4) (antiquaryref27_Walk.f (k + 1) a0 a1 a2 a3 a4) := by
 intro a0 a1 a2 a3 a4 k
 have ih0 := antiquaryref27_Walk.mono_l k
 unfold antiquaryref27_Walk.f
 repeat' first
   | (with_reducible exact ih0 _ _ _ _ _)
   | (with_reducible exact antiquaryref04_Key.mono _ _ _ _)
   | (with_reducible exact antiquaryref27_Order.mono _ _ _ _ _)
   | (with_reducible exact antiquaryref27_asked.mono _ _ _ _ _ _)
   | (with_reducible exact LeO.refl _)
   | (with_reducible exact LeO.none _)
   | (with_reducible refine LeO.ite ?_ ?_)
   | (with_reducible refine LeO.bind ?_ (fun _ => ?_))
   | exact ih0 _ _ _ _ _
   | exact antiquaryref04_Key.mono _ _ _ _
   | exact antiquaryref27_Order.mono _ _ _ _ _
   | exact antiquaryref27_asked.mono _ _ _ _ _ _
   | exact LeO.none _
   | refine LeO.ite ?_ ?_
   | refine LeO.bind ?_ (fun _ => ?_)
def antiquaryref27_Walk.T7 : Bool × List (List Nat × List Nat) := (true, [([], []), ([], []), ([], []), ([2], [2]), ([3], [3]), ([1, 4], [1, 4]), ([5], [5]), ([], []), ([0, 6, 7], [0, 6, 7]), ([], []), ([], []), ([], []), ([10, 11], [10, 11]), ([12], [12]), ([], []), ([9, 13, 14, 8], [9, 13, 14]), ([8, 15], [8, 15])])
def antiquaryref27_Walk.B7 : List Nat := [0, 0, 0, 4, 12, 30, 62, 0, 255, 0, 0, 0, 3072, 7168, 0, 32767, 65535]
theorem antiquaryref27_Walk.tab7 : rtab .any (opsOf Tryz.f12 7) = antiquaryref27_Walk.T7 := by kernel_rfl
theorem antiquaryref27_Walk.bits7 : waitsOk antiquaryref27_Walk.T7.2 antiquaryref27_Walk.B7 = true := by kernel_rfl
set_option maxHeartbeats 8000000 in
set_option maxRecDepth 100000 in
theorem antiquaryref27_Walk.calls (k : Nat) (a0 : Int) (A1 : Option Addr) (c1 : Nat) (l1 : List (List Int)) (A2_0 : Option Addr) (c2_0 : Nat) (l2_0 : List (S61)) (A3 : Option Addr) (c3 : Nat) (l3 : List Int) (a4 : Int) (r1 : List Int) (r2 : Int) (r3 : Bool) (r4 : Int) (w : World) (hr1 : Kd.C (Kd.slice 3 (Kd.int .i64)) w A1 l1.length l1) (hc1 : l1.length ≤ c1) (hr2_0 : Kd.C k61 w A2_0 l2_0.length l2_0) (hc2_0 : l2_0.length ≤ c2_0) (hr3 : Kd.C (Kd.int .i64) w A3 l3.length l3) (hc3 : l3.length ≤ c3) (h : antiquaryref27_Walk.f k a0 l1 l2_0 l3 a4 = some (r1, r2, r3, r4)) :
  Calls Tryz.prog 12 #[.int .i64 a0, .slice A1 l1.length c1, .agg #[.slice A2_0 l2_0.length c2_0], .slice A3 l3.length c3, .int .i64 a4] w fun e w' => ∃ v0_ : Value, e = .returned (.agg #[v0_, .int .i64 r2, .bool r3, .int .i64 r4]) ∧ Kd.R (Kd.int .i64) 3 w' w.heap.size (fun _ => True) v0_ r1 ∧ Below w.heap.size w w' := by
 have hu25 := Tryz.underlying25
 have hu36 := Tryz.underlying36
 have HR1 := Aside0.mk hr1
 have HC1 := Aside0.mk hc1
 clear hr1 hc1
 have HR2_0 := Aside0.mk hr2_0
 have HC2_0 := Aside0.mk hc2_0
 clear hr2_0 hc2_0
 have HR3 := Aside0.mk hr3
 have HC3 := Aside0.mk hc3
 clear hr3 hc3
 have HB := Aside0.mk (Below.refl w.heap.size w)
 have H : ((antiquaryref27_asked.f k a0 l1 l2_0 l3 a4).bind fun t192 => (if t192 = true then (antiquaryref27_Walk.l0 k a0 l1 l3 (([a4] : List Int)) l2_0) else (some (([] : List Int), 0, false, 1)))) = some (r1, r2, r3, r4) := h
 clear h
 replace H := Option.bind_eq_some_iff.mp H
 obtain ⟨t192, A60, H⟩ := H
 replace H : (if t192 = true then (antiquaryref27_Walk.l0 k a0 l1 l3 (([a4] : List Int)) l2_0) else (some (([] : List Int), 0, false, 1))) = some (r1, r2, r3, r4) := H
 have A6 := Aside0.mk A60
 clear A60
 by_cases c7 : t192 = true
 ·subst c7
  have H1 : (antiquaryref27_Walk.l0 k a0 l1 l3 (([a4] : List Int)) l2_0) = some (r1, r2, r3, r4) := by rw [if_pos rfl] at H; exact H
  clear H
  have H := H1
  clear H1
  obtain ⟨y193, hy193⟩ : ∃ y_ : List Int, y_ = (([a4] : List Int)) := ⟨_, rfl⟩
  replace H : (antiquaryref27_Walk.l0 k a0 l1 l3 y193 l2_0) = some (r1, r2, r3, r4) := by first | (rw [hy193]; with_reducible exact H) | (have H2_ := (Option.bind_some _ _).symm.trans H; rw [hy193]; with_reducible exact H2_) | (have H2_ := (Option.bind_some _ _).symm.trans H; with_reducible exact H2_) | with_reducible exact H | (rw [hy193]; exact H) | exact H
  have Ny193 := Aside0.mk hy193
  clear hy193
  have H' := Aside0.mk H
  clear H
  go_enter Tryz.func12, Tryz.ntmps12
  go_wp2_with (first | ((with_reducible refine gate_dst (N := 7) rfl ?_); refine box_event ?hg (N := 7) ?hd (cs := #[.slice A2_0 l2_0.length c2_0]) (t := 25) ?hr ?_; (case hd => rfl); (case hg => rfl); (case hr => first | (go_simp; done) | (go_simp; rfl)); intro gb190 hg w8 hbox hb; have n0_ := Aside0.mk (below_step (by repeat (first | (with_reducible first | exact HB.out | apply below_alloc | apply pw_below_drewN | apply below_drew1) | exact HB.out)) hb); have n1_ := Aside0.mk (hbox); have n2_ := Aside0.mk ((by rw [hg]; exact (below_size (by repeat (first | (with_reducible first | exact HB.out | apply below_alloc | apply pw_below_drewN | apply below_drew1) | exact HB.out))) : w.heap.size ≤ gb190)); have n3_ := Aside0.mk ((by rw [hg]; exact (below_size (by repeat (first | (with_reducible first | exact HB.out | apply below_alloc | apply pw_below_drewN | apply below_drew1) | exact HB.out))) : w.heap.size ≤ gb190)); clear HB; have HB := n0_; have BK190 := n1_; have GW190 := n2_; have GE190 := n3_; clear n0_ n1_ n2_ n3_; clear hb hbox hg) | ((with_reducible refine gate_dst (N := 10) rfl ?_); refine box_event ?hg (N := 10) ?hd (cs := #[.slice none 0 0, .int .i64 0, .bool false, .int .i64 0]) (t := 36) ?hr ?_; (case hd => rfl); (case hg => rfl); (case hr => first | (go_simp; done) | (go_simp; rfl)); intro gb191 hg w9 hbox hb; have n0_ := Aside0.mk (blk_below (g := gb190) (o := .cells #[.slice A2_0 l2_0.length c2_0] 25 (0, 0)) (by (with_reducible repeat (first | refine blk_drewN ?_ _ | refine blk_drew ?_ | refine blk_alloc ?_ _)); exact BK190.out) hb); have n1_ := Aside0.mk (below_step (by repeat (first | (with_reducible first | exact HB.out | apply below_alloc | apply pw_below_drewN | apply below_drew1 | refine below_set ?_ GE190.out) | exact HB.out)) hb); have n2_ := Aside0.mk (hbox); have n3_ := Aside0.mk ((by rw [hg]; exact (below_size (by repeat (first | (with_reducible first | exact HB.out | apply below_alloc | apply pw_below_drewN | apply below_drew1 | refine below_set ?_ GE190.out) | exact HB.out))) : w.heap.size ≤ gb191)); have n4_ := Aside0.mk ((by rw [hg]; exact (below_size (by repeat (first | (with_reducible first | exact HB.out | apply below_alloc | apply pw_below_drewN | apply below_drew1 | refine below_set ?_ GE190.out) | exact HB.out))) : w.heap.size ≤ gb191)); have n5_ := Aside0.mk ((by rw [hg]; exact Nat.ne_of_lt (blk_lt (g := gb190) (o := .cells #[.slice A2_0 l2_0.length c2_0] 25 (0, 0)) (by (with_reducible repeat (first | refine blk_drewN ?_ _ | refine blk_drew ?_ | refine blk_alloc ?_ _)); exact BK190.out)) : gb190 ≠ gb191)); have n6_ := Aside0.mk ((by rw [hg]; exact Nat.ne_of_gt (blk_lt (g := gb190) (o := .cells #[.slice A2_0 l2_0.length c2_0] 25 (0, 0)) (by (with_reducible repeat (first | refine blk_drewN ?_ _ | refine blk_drew ?_ | refine blk_alloc ?_ _)); exact BK190.out)) : gb191 ≠ gb190)); clear BK190; clear HB; have BK190 := n0_; have HB := n1_; have BK191 := n2_; have GW191 := n3_; have GE191 := n4_; have NB190_191 := n5_; have NB191_190 := n6_; clear n0_ n1_ n2_ n3_ n4_ n5_ n6_; clear hb hbox hg; have hnb10 := NB190_191.out; have hnc10 := NB191_190.out; have hcz11_0 : w9.cell? ⟨gb190, 0, none⟩ = some (.slice A2_0 l2_0.length c2_0) := (blk_cell BK190.out 0).trans rfl; have hfz11_0 := blk_frozen BK190.out 0) | ((with_reducible refine gate_callee (f := 38) rfl ?_); refine goesL_ (some 20) rfl rfl Tryz.func38 (by kernel_rfl) rfl #[.int .i64 a0, .slice A1 l1.length c1, .agg #[.slice A2_0 l2_0.length c2_0], .slice A3 l3.length c3, .int .i64 a4] rfl (by (try simp only [List.map_toArray, List.map_cons, List.map_nil]); first | done | rfl | (simp only [List.length_drop, List.length_take]; rfl)) ?_; (with_reducible refine (antiquaryref27_asked.calls k a0 _ _ l1 _ _ l2_0 _ _ l3 a4 true _ ?side1 ?side2 ?side3 ?side4 ?side5 ?side6 A6.out).mono ?_); (case side1 => repeat (first | exact (Kd.C_below HR1.out HB.out) | (with_reducible refine Kd.C_alloc ?_ _) | (with_reducible refine Kd.C_drewN ?_ _) | (with_reducible refine Kd.C_drew ?_))); (case side2 => exact HC1.out); (case side3 => repeat (first | exact (Kd.C_below HR2_0.out HB.out) | (with_reducible refine Kd.C_alloc ?_ _) | (with_reducible refine Kd.C_drewN ?_ _) | (with_reducible refine Kd.C_drew ?_))); (case side4 => exact HC2_0.out); (case side5 => repeat (first | exact (Kd.C_below HR3.out HB.out) | (with_reducible refine Kd.C_alloc ?_ _) | (with_reducible refine Kd.C_drewN ?_ _) | (with_reducible refine Kd.C_drew ?_))); (case side6 => exact HC3.out); rintro e w12 ⟨rfl, hb⟩; refine ⟨_, rfl, ?_⟩; have n0_ := Aside0.mk (blk_below (g := gb190) (o := .cells #[.slice A2_0 l2_0.length c2_0] 25 (0, 0)) (by (with_reducible repeat (first | refine blk_drewN ?_ _ | refine blk_drew ?_ | refine blk_alloc ?_ _)); exact BK190.out) hb); have n1_ := Aside0.mk (blk_below (g := gb191) (o := .cells #[.slice none 0 0, .int .i64 0, .bool false, .int .i64 0] 36 (0, 0)) (by (with_reducible repeat (first | refine blk_drewN ?_ _ | refine blk_drew ?_ | refine blk_alloc ?_ _)); exact BK191.out) hb); have n2_ := Aside0.mk (below_step (by repeat (first | (with_reducible first | exact HB.out | apply below_alloc | apply pw_below_drewN | apply below_drew1 | refine below_set ?_ GE190.out | refine below_set ?_ GE191.out) | exact HB.out)) hb); clear BK190; clear BK191; clear HB; have BK190 := n0_; have BK191 := n1_; have HB := n2_; clear n0_ n1_ n2_; (try clear hb); (try clear hb2); (try clear hk); (try clear hi)) | ((with_reducible refine gate_dst (N := 25) rfl ?_); refine Kd.R_lit (Kd.int .i64) _ 3 ?hg (N := 25) ?hd (xs := ([a4] : List Int)) (inner := [.int .i64 a4]) (ok := fun _ => True) (okp := fun _ => True) ?hr ?hp (fun _ hk => hk) trivial (Below.refl _ _) (Nat.le_refl _) (by simp) ?_; (case hd => rfl); (case hg => rfl); (case hr => first | (go_simp; done) | (go_simp; rfl)); (case hp => exact (Reps.one (show Kd.M (Kd.int .i64) _ _ _ a4 [.int .i64 a4] from rfl) (Reps.none _ _))); intro v194 w13 ho14 hb hg_ hnew_; clear hg_ hnew_; (first | rw [← Ny193.out] at ho14 | (simp only [Int.reduceToNat] at ho14; rw [← Ny193.out] at ho14)); have n0_ := Aside0.mk (Kd.R_lower ho14 (below_size (by repeat (first | (with_reducible first | exact HB.out | apply below_alloc | apply pw_below_drewN | apply below_drew1 | refine below_set ?_ GE190.out | refine below_set ?_ GE191.out) | exact HB.out)))); have n1_ := Aside0.mk (blk_below (g := gb190) (o := .cells #[.slice A2_0 l2_0.length c2_0] 25 (0, 0)) (by (with_reducible repeat (first | refine blk_drewN ?_ _ | refine blk_drew ?_ | refine blk_alloc ?_ _)); exact BK190.out) hb); have n2_ := Aside0.mk (blk_below (g := gb191) (o := .cells #[.slice none 0 0, .int .i64 0, .bool false, .int .i64 0] 36 (0, 0)) (by (with_reducible repeat (first | refine blk_drewN ?_ _ | refine blk_drew ?_ | refine blk_alloc ?_ _)); exact BK191.out) hb); have n3_ := Aside0.mk (below_step (by repeat (first | (with_reducible first | exact HB.out | apply below_alloc | apply pw_below_drewN | apply below_drew1 | refine below_set ?_ GE190.out | refine below_set ?_ GE191.out) | exact HB.out)) hb); clear BK190; clear BK191; clear HB; have HO195 := n0_; have BK190 := n1_; have BK191 := n2_; have HB := n3_; clear n0_ n1_ n2_ n3_; clear hb ho14))
  go_loopg [12] k (fun kq v12 w' => ∃ (x12_1 : List Int) (x192001_1 : Int) (x192002_1 : Bool) (x192003_1 : Int), Aside0 (antiquaryref27_Walk.l0 kq a0 l1 l3 x12_1 l2_0 = some (r1, r2, r3, r4)) ∧ Aside0 (kq ≤ k) ∧ Aside0 (Kd.R (Kd.int .i64) 3 w' w.heap.size (fun _ => True) v12 x12_1) ∧ Aside0 (w'.heap[gb190]? = some (.cells #[(.slice A2_0 l2_0.length c2_0)] 25 (0, 0))) ∧ Aside0 (w'.heap[gb191]? = some (.cells #[(.slice none 0 0), .int .i64 x192001_1, .bool x192002_1, .int .i64 x192003_1] 36 (0, 0))) ∧ Aside0 (Below w.heap.size w w'))
  case atStart => exact ⟨(y193), (0), (false), (0), H', ⟨Nat.le_refl _⟩, ⟨by (with_reducible repeat (first | apply Kd.R_alloc | apply Kd.R_drewN | apply Kd.R_drew)); exact HO195.out⟩, ⟨by (with_reducible repeat (first | refine blk_drewN ?_ _ | refine blk_drew ?_ | refine blk_alloc ?_ _)); exact BK190.out⟩, ⟨by (with_reducible repeat (first | refine blk_drewN ?_ _ | refine blk_drew ?_ | refine blk_alloc ?_ _)); exact BK191.out⟩, ⟨by repeat (first | (with_reducible first | exact HB.out | apply below_alloc | apply pw_below_drewN | apply below_drew1 | refine below_set ?_ GE190.out | refine below_set ?_ GE191.out) | exact HB.out)⟩⟩
  case round =>
   clear H'
   try clear c1
   try clear c2
   try clear p2
   try clear c3
   try clear c7
   try clear c10
   try clear c12
   try clear hcz11_0
   try clear hfz11_0
   obtain ⟨x12_1, x192001_1, x192002_1, x192003_1, HA, HK1, HO_12, BK190, BK191, HB⟩ := hrel
   cases gk with
   | zero => exact absurd HA.out (by simp [antiquaryref27_Walk.l0])
   | succ k1 =>
    have H := HA.out
    clear HA
    simp only [antiquaryref27_Walk.l0] at H
    obtain ⟨ji15, hji15⟩ : ∃ j_ : Int, (wrap64 ((x12_1.length : Int) - 1)) = j_ := ⟨_, rfl⟩
    replace H : (if 0 ≤ (ji15) then (if (ji15) < (x12_1.length : Int) then (if 0 ≤ (rd x12_1 (ji15)) then (if (rd x12_1 (ji15)) < (l2_0.length : Int) then ((antiquaryref27_Order.f k1 a0 l1 l3 ((rd_T61 l2_0 (rd x12_1 (ji15))).f1)).bind fun t198 => (if 0 < (t198.length : Int) then (if 0 ≤ (rd t198 0) then (if (rd t198 0) < (l1.length : Int) then ((antiquaryref04_Key.f k1 a0 (rd_L1 l1 (rd t198 0)) l3).bind fun t203 => (if (rd x12_1 (ji15)) < (l1.length : Int) then ((antiquaryref04_Key.f k1 a0 (rd_L1 l1 (rd x12_1 (ji15))) l3).bind fun t205 => (if t203 ≥ t205 then (some (x12_1, 0, false, 0)) else (if x12_1.length < 17592186044416 then (antiquaryref27_Walk.l0 k1 a0 l1 l3 (x12_1 ++ [rd t198 0]) l2_0) else (none)))) else (none))) else (none)) else (none)) else (none))) else (none)) else (none)) else (none)) else (none)) = some (r1, r2, r3, r4) := by first | (rw [hji15] at H; exact H) | (simp only [hji15] at H ⊢; exact H)
    have hji15w : (IntKind.i64.wrap ((x12_1.length : Int) - 1)) = ji15 := (i64_w _).trans hji15
    by_cases c16 : 0 ≤ (ji15)
    ·rw [if_pos c16] at H
     have c16b0 : decide (0 ≤ (ji15)) = true := decide_eq_true c16
     clear c16
     by_cases c17 : (ji15) < (x12_1.length : Int)
     ·rw [if_pos c17] at H
      have c17b0 : decide ((ji15) < (x12_1.length : Int)) = true := decide_eq_true c17
      clear c17
      by_cases c18 : 0 ≤ (rd x12_1 (ji15))
      ·rw [if_pos c18] at H
       have c18b0 : decide (0 ≤ (rd x12_1 (ji15))) = true := decide_eq_true c18
       clear c18
       by_cases c19 : (rd x12_1 (ji15)) < (l2_0.length : Int)
       ·rw [if_pos c19] at H
        have c19b0 : decide ((rd x12_1 (ji15)) < (l2_0.length : Int)) = true := decide_eq_true c19
        clear c19
        replace H := Option.bind_eq_some_iff.mp H
        obtain ⟨t198, A200, H⟩ := H
        replace H : (if 0 < (t198.length : Int) then (if 0 ≤ (rd t198 0) then (if (rd t198 0) < (l1.length : Int) then ((antiquaryref04_Key.f k1 a0 (rd_L1 l1 (rd t198 0)) l3).bind fun t203 => (if (rd x12_1 (ji15)) < (l1.length : Int) then ((antiquaryref04_Key.f k1 a0 (rd_L1 l1 (rd x12_1 (ji15))) l3).bind fun t205 => (if t203 ≥ t205 then (some (x12_1, 0, false, 0)) else (if x12_1.length < 17592186044416 then (antiquaryref27_Walk.l0 k1 a0 l1 l3 (x12_1 ++ [rd t198 0]) l2_0) else (none)))) else (none))) else (none)) else (none)) else (none)) = some (r1, r2, r3, r4) := H
        have A20 := Aside0.mk A200
        clear A200
        by_cases c21 : 0 < (t198.length : Int)
        ·rw [if_pos c21] at H
         have c21b0 : decide (0 < (t198.length : Int)) = true := decide_eq_true c21
         have c21b1 : decide (0 < t198.length) = true := decide_eq_true (by omega)
         clear c21
         by_cases c22 : 0 ≤ (rd t198 0)
         ·rw [if_pos c22] at H
          have c22b0 : decide (0 ≤ (rd t198 0)) = true := decide_eq_true c22
          clear c22
          by_cases c23 : (rd t198 0) < (l1.length : Int)
          ·rw [if_pos c23] at H
           have c23b0 : decide ((rd t198 0) < (l1.length : Int)) = true := decide_eq_true c23
           clear c23
           replace H := Option.bind_eq_some_iff.mp H
           obtain ⟨t203, A240, H⟩ := H
           replace H : (if (rd x12_1 (ji15)) < (l1.length : Int) then ((antiquaryref04_Key.f k1 a0 (rd_L1 l1 (rd x12_1 (ji15))) l3).bind fun t205 => (if t203 ≥ t205 then (some (x12_1, 0, false, 0)) else (if x12_1.length < 17592186044416 then (antiquaryref27_Walk.l0 k1 a0 l1 l3 (x12_1 ++ [rd t198 0]) l2_0) else (none)))) else (none)) = some (r1, r2, r3, r4) := H
           have A24 := Aside0.mk A240
           clear A240
           by_cases c25 : (rd x12_1 (ji15)) < (l1.length : Int)
           ·rw [if_pos c25] at H
            have c25b0 : decide ((rd x12_1 (ji15)) < (l1.length : Int)) = true := decide_eq_true c25
            clear c25
            replace H := Option.bind_eq_some_iff.mp H
            obtain ⟨t205, A260, H⟩ := H
            replace H : (if t203 ≥ t205 then (some (x12_1, 0, false, 0)) else (if x12_1.length < 17592186044416 then (antiquaryref27_Walk.l0 k1 a0 l1 l3 (x12_1 ++ [rd t198 0]) l2_0) else (none))) = some (r1, r2, r3, r4) := H
            have A26 := Aside0.mk A260
            clear A260
            by_cases c27 : t203 ≥ t205
            ·rw [if_pos c27] at H
             have c27b0 : decide (t205 ≤ t203) = true := decide_eq_true c27
             clear c27
             simp only [Option.some.injEq, Prod.mk.injEq] at H
             obtain ⟨rfl, rfl, rfl, rfl⟩ := H
             obtain ⟨Ao28, co28, eo28⟩ := Kd.R_slice HO_12.out
             subst eo28
             have p196 : 0 ≤ ((ji15) : Int) := of_decide_eq_true (by first | (with_reducible assumption) | assumption)
             have q196 : (ji15) < (x12_1.length : Int) := of_decide_eq_true (by first | (with_reducible assumption) | assumption)
             obtain ⟨ad196, e196, hx196_0⟩ := Kd.at_int (Kd.R_reads' HO_12.out).2.2 (ji15) p196 q196
             cases e196
             replace p196 := eq_true p196
             replace q196 := eq_true q196
             have hnb29 := NB190_191.out
             have hnc29 := NB191_190.out
             have hcz30_0 : wr.cell? ⟨gb190, 0, none⟩ = some (.slice A2_0 l2_0.length c2_0) := (blk_cell BK190.out 0).trans rfl
             have hfz30_0 := blk_frozen BK190.out 0
             have p197 : 0 ≤ ((rd x12_1 (ji15)) : Int) := of_decide_eq_true (by first | (with_reducible assumption) | assumption)
             have q197 : (rd x12_1 (ji15)) < (l2_0.length : Int) := of_decide_eq_true (by first | (with_reducible assumption) | assumption)
             obtain ⟨ad197, A197_1, c197_1, e197, hx197_0, hx197_1, hl197_1, hi197_1⟩ := at_T61 HR2_0.out (rd x12_1 (ji15)) p197 q197
             cases e197
             replace hx197_0 := (HB.out.cell (World.block_lt_of_cell? w _ hx197_0)).trans hx197_0
             replace hx197_1 := (HB.out.cell (World.block_lt_of_cell? w _ hx197_1)).trans hx197_1
             have HR197_1 := Aside0.mk hi197_1
             have HC197_1 := Aside0.mk hl197_1
             clear hi197_1 hl197_1
             replace p197 := eq_true p197
             replace q197 := eq_true q197
             try go_wp2_with (first | ((with_reducible refine gate_callee (f := 29) rfl ?_); refine goesL_ (some 41) rfl rfl Tryz.func29 (by kernel_rfl) rfl #[.int .i64 a0, .slice A1 l1.length c1, .slice A3 l3.length c3, .slice A197_1 ((rd_T61 l2_0 (rd x12_1 (ji15))).f1).length c197_1] rfl (by (try simp only [List.map_toArray, List.map_cons, List.map_nil]); first | done | (simp only [hji15]; rfl) | rfl | (simp only [List.length_drop, List.length_take]; rfl)) ?_; (with_reducible refine (antiquaryref27_Order.calls k1 a0 _ _ l1 _ _ l3 _ _ ((rd_T61 l2_0 (rd x12_1 (ji15))).f1) t198 _ ?side1 ?side2 ?side3 ?side4 ?side5 ?side6 A20.out).mono ?_); (case side1 => repeat (first | exact (Kd.C_below HR1.out HB.out) | (with_reducible refine Kd.C_alloc ?_ _) | (with_reducible refine Kd.C_drewN ?_ _) | (with_reducible refine Kd.C_drew ?_))); (case side2 => exact HC1.out); (case side3 => repeat (first | exact (Kd.C_below HR3.out HB.out) | (with_reducible refine Kd.C_alloc ?_ _) | (with_reducible refine Kd.C_drewN ?_ _) | (with_reducible refine Kd.C_drew ?_))); (case side4 => exact HC3.out); (case side5 => repeat (first | exact (Kd.C_below HR197_1.out HB.out) | (with_reducible refine Kd.C_alloc ?_ _) | (with_reducible refine Kd.C_drewN ?_ _) | (with_reducible refine Kd.C_drew ?_))); (case side6 => exact HC197_1.out); rintro e w31 ⟨v199, rfl, ho0, hb⟩; refine ⟨_, rfl, ?_⟩; have n0_ := Aside0.mk (Kd.R_elder' (by (with_reducible repeat (first | apply Kd.R_alloc | apply Kd.R_drewN | apply Kd.R_drew)); exact HO_12.out) (Kd.R_base ho0) hb); have n1_ := Aside0.mk (Kd.R_lower (Kd.R_new' ho0 (Kd.R_lt (by (with_reducible repeat (first | apply Kd.R_alloc | apply Kd.R_drewN | apply Kd.R_drew)); exact HO_12.out))) (below_size (by repeat (first | (with_reducible first | exact HB.out | apply below_alloc | apply pw_below_drewN | apply below_drew1 | refine below_set ?_ GE190.out | refine below_set ?_ GE191.out) | exact HB.out)))); have n2_ := Aside0.mk (blk_below (g := gb190) (o := .cells #[.slice (some ad197) l2_0.length c2_0] 25 (0, 0)) (by (with_reducible repeat (first | refine blk_drewN ?_ _ | refine blk_drew ?_ | refine blk_alloc ?_ _)); exact BK190.out) hb); have n3_ := Aside0.mk (blk_below (g := gb191) (o := .cells #[.slice none 0 0, .int .i64 x192001_1, .bool x192002_1, .int .i64 x192003_1] 36 (0, 0)) (by (with_reducible repeat (first | refine blk_drewN ?_ _ | refine blk_drew ?_ | refine blk_alloc ?_ _)); exact BK191.out) hb); have n4_ := Aside0.mk (below_step (by repeat (first | (with_reducible first | exact HB.out | apply below_alloc | apply pw_below_drewN | apply below_drew1 | refine below_set ?_ GE190.out | refine below_set ?_ GE191.out) | exact HB.out)) hb); clear HO_12; clear BK190; clear BK191; clear HB; have HO_12 := n0_; have HO200 := n1_; have BK190 := n2_; have BK191 := n3_; have HB := n4_; clear n0_ n1_ n2_ n3_ n4_; (try clear hb); (try clear hb2); (try clear hk); (try clear hi); (try clear ho0)))
             have n0_ := Aside0.mk (Kd.R_drew HO_12.out)
             have n1_ := Aside0.mk (Kd.R_drew HO200.out)
             have n2_ := Aside0.mk (blk_drew BK190.out)
             have n3_ := Aside0.mk (blk_drew BK191.out)
             have n4_ := Aside0.mk (below_drew1 HB.out)
             clear HO_12
             clear HO200
             clear BK190
             clear BK191
             clear HB
             have HO_12 := n0_
             have HO200 := n1_
             have BK190 := n2_
             have BK191 := n3_
             have HB := n4_
             clear n0_ n1_ n2_ n3_ n4_
             obtain ⟨Ao33, co33, eo33⟩ := Kd.R_slice HO200.out
             (first | subst eo33 | (injection eo33 with f1_ f2_ f3_; have f4_ := f1_.symm; have f5_ := f3_.symm; clear f1_ f2_ f3_; subst f4_; subst f5_))
             have p201 : 0 ≤ (0 : Int) := (by omega)
             have q201 : 0 < (t198.length : Int) := of_decide_eq_true (by first | (with_reducible assumption) | assumption)
             obtain ⟨ad201, e201, hx201_0⟩ := Kd.at_int (Kd.R_reads' HO200.out).2.2 0 p201 q201
             cases e201
             have qi201 : (0 < t198.length) = True := eq_true (by omega)
             (try rw [show ((0 : Int)).toNat = 0 from rfl] at hx201_0)
             (try rw [Addr.add_zero'] at hx201_0)
             replace p201 := eq_true p201
             replace q201 := eq_true q201
             have p202 : 0 ≤ ((rd t198 0) : Int) := of_decide_eq_true (by first | (with_reducible assumption) | assumption)
             have q202 : (rd t198 0) < (l1.length : Int) := of_decide_eq_true (by first | (with_reducible assumption) | assumption)
             obtain ⟨ad202, A202_0, c202_0, e202, hx202_0, hl202_0, hi202_0⟩ := at_L1 HR1.out (rd t198 0) p202 q202
             have hw202_0 := hx202_0
             cases e202
             replace hx202_0 := (HB.out.cell (World.block_lt_of_cell? w _ hx202_0)).trans hx202_0
             have HR202_0 := Aside0.mk hi202_0
             have HC202_0 := Aside0.mk hl202_0
             clear hi202_0 hl202_0
             replace p202 := eq_true p202
             replace q202 := eq_true q202
             have p204 : 0 ≤ ((rd x12_1 (ji15)) : Int) := of_decide_eq_true (by first | (with_reducible assumption) | assumption)
             have q204 : (rd x12_1 (ji15)) < (l1.length : Int) := of_decide_eq_true (by first | (with_reducible assumption) | assumption)
             obtain ⟨ad204, A204_0, c204_0, e204, hx204_0, hl204_0, hi204_0⟩ := at_L1 HR1.out (rd x12_1 (ji15)) p204 q204
             have hw204_0 := hx204_0
             obtain rfl : ad202 = ad204 := (by injection e204)
             replace hx204_0 := (HB.out.cell (World.block_lt_of_cell? w _ hx204_0)).trans hx204_0
             have HR204_0 := Aside0.mk hi204_0
             have HC204_0 := Aside0.mk hl204_0
             clear hi204_0 hl204_0
             replace p204 := eq_true p204
             replace q204 := eq_true q204
             refine start_ (n := 17) (S := fun w' => w'.cell? ad201 = some (.int .i64 (rd t198 0)) ∧ w'.cell? (ad202.add ((rd t198 0)).toNat) = some (.slice A202_0 (rd_L1 l1 (rd t198 0)).length c202_0) ∧ w'.cell? (ad202.add ((rd x12_1 (ji15))).toNat) = some (.slice A204_0 (rd_L1 l1 (rd x12_1 (ji15))).length c204_0)) (ds := []) #[false, false, false, false, false, false, false, false, false, false, false, false, false, false, false, false, false] (by kernel_rfl) rfl rfl ⟨hx201_0, ((HB.out.cell (World.block_lt_of_cell? w _ hw202_0)).trans hw202_0), ((HB.out.cell (World.block_lt_of_cell? w _ hw204_0)).trans hw204_0)⟩ (fun hHeld => ?_); refine with_tabW antiquaryref27_Walk.tab7 antiquaryref27_Walk.bits7 (fun HT_ HW_ => ?_)
             generalize w31.drew = w32 at HO_12 HO200 BK190 BK191 HB HR202_0 HR204_0 hx201_0 hx202_0 hx204_0 hHeld ⊢
             refine pure_ (i := 0) (N := some 42) (v := ?_) (a' := ?_) #[true, false, false, false, false, false, false, false, false, false, false, false, false, false, false, false, false] rfl rfl (any_of HT_.out (by kernel_rfl)) (fun _ _ _ h => h) (Or.inl ⟨by rfl, ?_⟩) ?_ ?_
             rotate_left
             ·intro w'
              go_simp
              with_reducible rfl
             rotate_left
             ·simp only [Act.put, List.setIfInBounds_toArray, List.set_cons_zero, List.set_cons_succ, i64_w, i32_w]
              rfl
             refine pure_ (i := 1) (N := some 43) (v := ?_) (a' := ?_) #[true, true, false, false, false, false, false, false, false, false, false, false, false, false, false, false, false] rfl rfl (any_of HT_.out (by kernel_rfl)) (fun _ _ _ h => h) (Or.inl ⟨by rfl, ?_⟩) ?_ ?_
             rotate_left
             ·intro w'
              go_simp
              with_reducible rfl
             rotate_left
             ·simp only [Act.put, List.setIfInBounds_toArray, List.set_cons_zero, List.set_cons_succ, i64_w, i32_w]
              rfl
             refine pure_ (i := 2) (N := some 44) (v := ?_) (a' := ?_) #[true, true, true, false, false, false, false, false, false, false, false, false, false, false, false, false, false] rfl rfl (any_of HT_.out (by kernel_rfl)) (fun _ _ _ h => h) (Or.inl ⟨by rfl, ?_⟩) ?_ ?_
             rotate_left
             ·intro w'
              go_simp
              with_reducible rfl
             rotate_left
             ·simp only [Act.put, List.setIfInBounds_toArray, List.set_cons_zero, List.set_cons_succ, i64_w, i32_w]
              rfl
             refine pure_ (i := 3) (N := some 45) (v := ?_) (a' := ?_) #[true, true, true, true, false, false, false, false, false, false, false, false, false, false, false, false, false] rfl rfl (any_of HT_.out (by kernel_rfl)) (fun _ _ _ h => h) (Or.inl ⟨by rfl, ?_⟩) ?_ ?_
             rotate_left
             ·intro w'
              go_simp
              with_reducible rfl
             rotate_left
             ·simp only [Act.put, List.setIfInBounds_toArray, List.set_cons_zero, List.set_cons_succ, i64_w, i32_w]
              rfl
             refine pure_ (i := 7) (N := some 49) (v := ?_) (a' := ?_) #[true, true, true, true, false, false, false, true, false, false, false, false, false, false, false, false, false] rfl rfl (any_of HT_.out (by kernel_rfl)) (fun _ _ _ h => h) (Or.inl ⟨by rfl, ?_⟩) ?_ ?_
             rotate_left
             ·intro w'
              go_simp
              with_reducible rfl
             rotate_left
             ·simp only [Act.put, List.setIfInBounds_toArray, List.set_cons_zero, List.set_cons_succ, i64_w, i32_w]
              rfl
             refine pure_ (i := 9) (N := some 51) (v := ?_) (a' := ?_) #[true, true, true, true, false, false, false, true, false, true, false, false, false, false, false, false, false] rfl rfl (any_of HT_.out (by kernel_rfl)) (fun _ _ _ h => h) (Or.inl ⟨by rfl, ?_⟩) ?_ ?_
             rotate_left
             ·intro w'
              go_simp
              with_reducible rfl
             rotate_left
             ·simp only [Act.put, List.setIfInBounds_toArray, List.set_cons_zero, List.set_cons_succ, i64_w, i32_w]
              rfl
             refine pure_ (i := 10) (N := some 52) (v := ?_) (a' := ?_) #[true, true, true, true, false, false, false, true, false, true, true, false, false, false, false, false, false] rfl rfl (any_of HT_.out (by kernel_rfl)) (fun _ _ _ h => h) (Or.inl ⟨by rfl, ?_⟩) ?_ ?_
             rotate_left
             ·intro w'
              go_simp
              with_reducible rfl
             rotate_left
             ·simp only [Act.put, List.setIfInBounds_toArray, List.set_cons_zero, List.set_cons_succ, i64_w, i32_w]
              rfl
             refine pure_ (i := 11) (N := some 53) (v := ?_) (a' := ?_) #[true, true, true, true, false, false, false, true, false, true, true, true, false, false, false, false, false] rfl rfl (any_of HT_.out (by kernel_rfl)) (fun _ _ _ h => h) (Or.inl ⟨by rfl, ?_⟩) ?_ ?_
             rotate_left
             ·intro w'
              go_simp
              with_reducible rfl
             rotate_left
             ·simp only [Act.put, List.setIfInBounds_toArray, List.set_cons_zero, List.set_cons_succ, i64_w, i32_w]
              rfl
             refine pure_ (i := 12) (N := some 54) (v := ?_) (a' := ?_) #[true, true, true, true, false, false, false, true, false, true, true, true, true, false, false, false, false] rfl rfl (any_of HT_.out (by kernel_rfl)) (fun _ _ _ h => h) (Or.inl ⟨by rfl, ?_⟩) ?_ ?_
             rotate_left
             ·intro w'
              go_simp
              with_reducible rfl
             rotate_left
             ·simp only [Act.put, List.setIfInBounds_toArray, List.set_cons_zero, List.set_cons_succ, i64_w, i32_w]
              rfl
             refine pure_ (i := 14) (N := some 56) (v := ?_) (a' := ?_) #[true, true, true, true, false, false, false, true, false, true, true, true, true, false, true, false, false] rfl rfl (any_of HT_.out (by kernel_rfl)) (fun _ _ _ h => h) (Or.inl ⟨by rfl, ?_⟩) ?_ ?_
             rotate_left
             ·intro w'
              go_simp
              with_reducible rfl
             rotate_left
             ·simp only [Act.put, List.setIfInBounds_toArray, List.set_cons_zero, List.set_cons_succ, i64_w, i32_w]
              rfl
             refine take_ (i := 4) (N := some 46) (v := ?_) (a' := ?_) #[true, true, true, true, true, false, false, true, false, true, true, true, true, false, true, false, false] rfl rfl (take_ofW HT_.out HW_.out (by kernel_rfl)) (fun _ _ _ h => h) (Or.inl ⟨by rfl, ?_⟩) hHeld ?_ ?_
             rotate_left
             ·rintro w' ⟨s0, s1, s2⟩
              go_simp
              with_reducible rfl
             rotate_left
             ·simp only [Act.put, List.setIfInBounds_toArray, List.set_cons_zero, List.set_cons_succ, i64_w, i32_w]
              rfl
             refine pure_ (i := 5) (N := some 47) (v := ?_) (a' := ?_) #[true, true, true, true, true, true, false, true, false, true, true, true, true, false, true, false, false] rfl rfl (any_of HT_.out (by kernel_rfl)) (fun _ _ _ h => h) (Or.inl ⟨by rfl, ?_⟩) ?_ ?_
             rotate_left
             ·intro w'
              go_simp
              with_reducible rfl
             rotate_left
             ·simp only [Act.put, List.setIfInBounds_toArray, List.set_cons_zero, List.set_cons_succ, i64_w, i32_w]
              rfl
             refine take_ (i := 6) (N := some 48) (v := ?_) (a' := ?_) #[true, true, true, true, true, true, true, true, false, true, true, true, true, false, true, false, false] rfl rfl (take_ofW HT_.out HW_.out (by kernel_rfl)) (fun _ _ _ h => h) (Or.inl ⟨by rfl, ?_⟩) hHeld ?_ ?_
             rotate_left
             ·rintro w' ⟨s0, s1, s2⟩
              go_simp
              with_reducible rfl
             rotate_left
             ·simp only [Act.put, List.setIfInBounds_toArray, List.set_cons_zero, List.set_cons_succ, i64_w, i32_w]
              rfl
             refine take_ (i := 13) (N := some 55) (v := ?_) (a' := ?_) #[true, true, true, true, true, true, true, true, false, true, true, true, true, true, true, false, false] rfl rfl (take_ofW HT_.out HW_.out (by kernel_rfl)) (fun _ _ _ h => h) (Or.inl ⟨by rfl, ?_⟩) hHeld ?_ ?_
             rotate_left
             ·rintro w' ⟨s0, s1, s2⟩
              go_simp
              with_reducible rfl
             rotate_left
             ·simp only [Act.put, List.setIfInBounds_toArray, List.set_cons_zero, List.set_cons_succ, i64_w, i32_w]
              rfl
             refine one_ (i := 8) (N := some 50) #[true, true, true, true, true, true, true, true, true, true, true, true, true, true, true, false, false] rfl rfl (one_of HT_.out (by kernel_rfl)) (by decide) (fun K hK => ?_)
             refine goes_ Tryz.func39 (by kernel_rfl) rfl #[.int .i64 a0, .slice A202_0 (rd_L1 l1 (rd t198 0)).length c202_0, .slice A3 l3.length c3] (by rfl) rfl rfl (by (try simp only [List.map_toArray, List.map_cons, List.map_nil]); first | done | rfl | (simp only [List.length_drop, List.length_take]; rfl)) ?_
             with_reducible refine (antiquaryref04_Key.calls k1 a0 _ _ (rd_L1 l1 (rd t198 0)) _ _ l3 t203 _ ?side1 ?side2 ?side3 ?side4 A24.out).mono ?_
             (case side1 => repeat (first | exact (Kd.C_below HR202_0.out HB.out) | (with_reducible refine Kd.C_alloc ?_ _) | (with_reducible refine Kd.C_drewN ?_ _) | (with_reducible refine Kd.C_drew ?_)))
             (case side2 => exact HC202_0.out)
             (case side3 => repeat (first | exact (Kd.C_below HR3.out HB.out) | (with_reducible refine Kd.C_alloc ?_ _) | (with_reducible refine Kd.C_drewN ?_ _) | (with_reducible refine Kd.C_drew ?_)))
             (case side4 => exact HC3.out)
             rintro e w34 ⟨rfl, hb⟩
             have HS0_ := (hb.cell (World.block_lt_of_cell? _ _ (hHeld.1))).trans (hHeld.1)
             refine ⟨_, rfl, ?_⟩
             have n0_ := Aside0.mk (Kd.R_below (by (with_reducible repeat (first | apply Kd.R_alloc | apply Kd.R_drewN | apply Kd.R_drew)); exact HO_12.out) hb)
             have n1_ := Aside0.mk (Kd.R_below (by (with_reducible repeat (first | apply Kd.R_alloc | apply Kd.R_drewN | apply Kd.R_drew)); exact HO200.out) hb)
             have n2_ := Aside0.mk (blk_below (g := gb190) (o := .cells #[.slice (some ad197) l2_0.length c2_0] 25 (0, 0)) (by (with_reducible repeat (first | refine blk_drewN ?_ _ | refine blk_drew ?_ | refine blk_alloc ?_ _)); exact BK190.out) hb)
             have n3_ := Aside0.mk (blk_below (g := gb191) (o := .cells #[.slice none 0 0, .int .i64 x192001_1, .bool x192002_1, .int .i64 x192003_1] 36 (0, 0)) (by (with_reducible repeat (first | refine blk_drewN ?_ _ | refine blk_drew ?_ | refine blk_alloc ?_ _)); exact BK191.out) hb)
             have n4_ := Aside0.mk (below_step (by repeat (first | (with_reducible first | exact HB.out | apply below_alloc | apply pw_below_drewN | apply below_drew1 | refine below_set ?_ GE190.out | refine below_set ?_ GE191.out) | exact HB.out)) hb)
             clear HO_12
             clear HO200
             clear BK190
             clear BK191
             clear HB
             have HO_12 := n0_
             have HO200 := n1_
             have BK190 := n2_
             have BK191 := n3_
             have HB := n4_
             clear n0_ n1_ n2_ n3_ n4_
             (try clear hb)
             (try clear hb2)
             (try clear hk)
             (try clear hi)
             refine hK.out _ _ ⟨HS0_, ((HB.out.cell (World.block_lt_of_cell? w _ hw202_0)).trans hw202_0), ((HB.out.cell (World.block_lt_of_cell? w _ hw204_0)).trans hw204_0)⟩ (fun hHeld => ?_)
             clear hK K
             refine norm_ (a' := ?_) ?_ ?_
             rotate_left
             ·show Act.put _ (some 50) _ = _
              simp only [Act.put, List.setIfInBounds_toArray, List.set_cons_zero, List.set_cons_succ, i64_w, i32_w]
              rfl
             refine one_ (i := 15) (N := some 57) #[true, true, true, true, true, true, true, true, true, true, true, true, true, true, true, true, false] rfl rfl (one_of HT_.out (by kernel_rfl)) (by decide) (fun K hK => ?_)
             refine goes_ Tryz.func39 (by kernel_rfl) rfl #[.int .i64 a0, .slice A204_0 (rd_L1 l1 (rd x12_1 (ji15))).length c204_0, .slice A3 l3.length c3] (by rfl) rfl rfl (by (try simp only [List.map_toArray, List.map_cons, List.map_nil]); first | done | (simp only [hji15]; rfl) | rfl | (simp only [List.length_drop, List.length_take]; rfl)) ?_
             with_reducible refine (antiquaryref04_Key.calls k1 a0 _ _ (rd_L1 l1 (rd x12_1 (ji15))) _ _ l3 t205 _ ?side1 ?side2 ?side3 ?side4 A26.out).mono ?_
             (case side1 => repeat (first | exact (Kd.C_below HR204_0.out HB.out) | (with_reducible refine Kd.C_alloc ?_ _) | (with_reducible refine Kd.C_drewN ?_ _) | (with_reducible refine Kd.C_drew ?_)))
             (case side2 => exact HC204_0.out)
             (case side3 => repeat (first | exact (Kd.C_below HR3.out HB.out) | (with_reducible refine Kd.C_alloc ?_ _) | (with_reducible refine Kd.C_drewN ?_ _) | (with_reducible refine Kd.C_drew ?_)))
             (case side4 => exact HC3.out)
             rintro e w35 ⟨rfl, hb⟩
             have HS0_ := (hb.cell (World.block_lt_of_cell? _ _ (hHeld.1))).trans (hHeld.1)
             refine ⟨_, rfl, ?_⟩
             have n0_ := Aside0.mk (Kd.R_below (by (with_reducible repeat (first | apply Kd.R_alloc | apply Kd.R_drewN | apply Kd.R_drew)); exact HO_12.out) hb)
             have n1_ := Aside0.mk (Kd.R_below (by (with_reducible repeat (first | apply Kd.R_alloc | apply Kd.R_drewN | apply Kd.R_drew)); exact HO200.out) hb)
             have n2_ := Aside0.mk (blk_below (g := gb190) (o := .cells #[.slice (some ad197) l2_0.length c2_0] 25 (0, 0)) (by (with_reducible repeat (first | refine blk_drewN ?_ _ | refine blk_drew ?_ | refine blk_alloc ?_ _)); exact BK190.out) hb)
             have n3_ := Aside0.mk (blk_below (g := gb191) (o := .cells #[.slice none 0 0, .int .i64 x192001_1, .bool x192002_1, .int .i64 x192003_1] 36 (0, 0)) (by (with_reducible repeat (first | refine blk_drewN ?_ _ | refine blk_drew ?_ | refine blk_alloc ?_ _)); exact BK191.out) hb)
             have n4_ := Aside0.mk (below_step (by repeat (first | (with_reducible first | exact HB.out | apply below_alloc | apply pw_below_drewN | apply below_drew1 | refine below_set ?_ GE190.out | refine below_set ?_ GE191.out) | exact HB.out)) hb)
             clear HO_12
             clear HO200
             clear BK190
             clear BK191
             clear HB
             have HO_12 := n0_
             have HO200 := n1_
             have BK190 := n2_
             have BK191 := n3_
             have HB := n4_
             clear n0_ n1_ n2_ n3_ n4_
             (try clear hb)
             (try clear hb2)
             (try clear hk)
             (try clear hi)
             refine hK.out _ _ ⟨HS0_, ((HB.out.cell (World.block_lt_of_cell? w _ hw202_0)).trans hw202_0), ((HB.out.cell (World.block_lt_of_cell? w _ hw204_0)).trans hw204_0)⟩ (fun hHeld => ?_)
             clear hK K
             refine norm_ (a' := ?_) ?_ ?_
             rotate_left
             ·show Act.put _ (some 57) _ = _
              simp only [Act.put, List.setIfInBounds_toArray, List.set_cons_zero, List.set_cons_succ, i64_w, i32_w]
              rfl
             refine pure_ (i := 16) (N := some 58) (v := ?_) (a' := ?_) #[true, true, true, true, true, true, true, true, true, true, true, true, true, true, true, true, true] rfl rfl (any_of HT_.out (by kernel_rfl)) (fun _ _ _ h => h) (Or.inl ⟨by rfl, ?_⟩) ?_ ?_
             rotate_left
             ·intro w'
              go_simp
              with_reducible rfl
             rotate_left
             ·simp only [Act.put, List.setIfInBounds_toArray, List.set_cons_zero, List.set_cons_succ, i64_w, i32_w]
              rfl
             refine done_ (done_of HT_.out (by kernel_rfl)) ?_
             have hcz36_0 : w35.cell? ⟨gb191, 0, none⟩ = some (.slice none 0 0) := (blk_cell BK191.out 0).trans rfl
             have hcz36_1 : w35.cell? ⟨gb191, 1, none⟩ = some (.int .i64 x192001_1) := (blk_cell BK191.out 1).trans rfl
             have hcz36_2 : w35.cell? ⟨gb191, 2, none⟩ = some (.bool x192002_1) := (blk_cell BK191.out 2).trans rfl
             have hcz36_3 : w35.cell? ⟨gb191, 3, none⟩ = some (.int .i64 x192003_1) := (blk_cell BK191.out 3).trans rfl
             have hfz36_0 := blk_frozen BK191.out 0
             have hfz36_1 := blk_frozen BK191.out 1
             have hfz36_2 := blk_frozen BK191.out 2
             have hfz36_3 := blk_frozen BK191.out 3
             try go_wp2
             refine bodyPost_ret (results_cell_row rfl _ _ gb191 36 #[.slice (some ad196) x12_1.length co28, .int .i64 0, .bool false, .int .i64 0] (0, 0) _ rfl (by (with_reducible repeat (first | refine blk_drewN ?_ _ | refine blk_drew ?_ | refine blk_alloc ?_ _)); refine blk_put (cs := #[.slice (some ad196) x12_1.length co28, .int .i64 0, .bool false, .int .i64 x192003_1]) ?_ 3 _ rfl; (with_reducible repeat (first | refine blk_drewN ?_ _ | refine blk_drew ?_ | refine blk_alloc ?_ _)); refine blk_put (cs := #[.slice (some ad196) x12_1.length co28, .int .i64 0, .bool x192002_1, .int .i64 x192003_1]) ?_ 2 _ rfl; (with_reducible repeat (first | refine blk_drewN ?_ _ | refine blk_drew ?_ | refine blk_alloc ?_ _)); refine blk_put (cs := #[.slice (some ad196) x12_1.length co28, .int .i64 x192001_1, .bool x192002_1, .int .i64 x192003_1]) ?_ 1 _ rfl; (with_reducible repeat (first | refine blk_drewN ?_ _ | refine blk_drew ?_ | refine blk_alloc ?_ _)); refine blk_put (cs := #[.slice none 0 0, .int .i64 x192001_1, .bool x192002_1, .int .i64 x192003_1]) ?_ 0 _ rfl; (with_reducible repeat (first | refine blk_drewN ?_ _ | refine blk_drew ?_ | refine blk_alloc ?_ _)); exact BK191.out) Tryz.underlying36 rfl (by kernel_rfl)) rfl ?_
             exact ⟨_, by first | rfl | (simp [errW_none, errW_some] <;> rfl) | (simp only [← hji15]; first | rfl | (simp [errW_none, errW_some] <;> rfl)) | (simp [*, errW_none, errW_some] <;> rfl), by (with_reducible repeat (first | apply Kd.R_alloc | apply Kd.R_drewN | apply Kd.R_drew)); exact Kd.R_mono (Kd.R_far (p := ⟨gb191, 3, none⟩) (Kd.R_far (p := ⟨gb191, 2, none⟩) (Kd.R_far (p := ⟨gb191, 1, none⟩) (Kd.R_far (p := ⟨gb191, 0, none⟩) (Kd.R_types HO_12.out BK191.out (by decide)) (fun _ hk => hk.2) (.slice (some ad196) x12_1.length co28)) (fun _ hk => hk.2) (.int .i64 0)) (fun _ hk => hk.2) (.bool false)) (fun _ hk => hk.2) (.int .i64 0)) (fun _ hk => trivial), by repeat (first | (with_reducible first | exact HB.out | apply below_alloc | apply pw_below_drewN | apply below_drew1 | refine below_set ?_ GE190.out | refine below_set ?_ GE191.out) | exact HB.out)⟩
            ·rw [if_neg c27] at H
             have c27b0 : decide (t205 ≤ t203) = false := decide_eq_false c27
             clear c27
             by_cases c37 : x12_1.length < 17592186044416
             ·rw [if_pos c37] at H
              have LMc37 := Aside0.mk c37
              clear c37
              obtain ⟨y207, hy207⟩ : ∃ y_ : List Int, y_ = (x12_1 ++ [rd t198 0]) := ⟨_, rfl⟩
              replace H : (antiquaryref27_Walk.l0 k1 a0 l1 l3 y207 l2_0) = some (r1, r2, r3, r4) := by first | (rw [hy207]; with_reducible exact H) | (have H2_ := (Option.bind_some _ _).symm.trans H; rw [hy207]; with_reducible exact H2_) | (have H2_ := (Option.bind_some _ _).symm.trans H; with_reducible exact H2_) | with_reducible exact H | (rw [hy207]; exact H) | exact H
              have Ny207 := Aside0.mk hy207
              clear hy207
              have H' := Aside0.mk H
              clear H
              obtain ⟨Ao38, co38, eo38⟩ := Kd.R_slice HO_12.out
              subst eo38
              have p196 : 0 ≤ ((ji15) : Int) := of_decide_eq_true (by first | (with_reducible assumption) | assumption)
              have q196 : (ji15) < (x12_1.length : Int) := of_decide_eq_true (by first | (with_reducible assumption) | assumption)
              obtain ⟨ad196, e196, hx196_0⟩ := Kd.at_int (Kd.R_reads' HO_12.out).2.2 (ji15) p196 q196
              cases e196
              replace p196 := eq_true p196
              replace q196 := eq_true q196
              have hnb39 := NB190_191.out
              have hnc39 := NB191_190.out
              have hcz40_0 : wr.cell? ⟨gb190, 0, none⟩ = some (.slice A2_0 l2_0.length c2_0) := (blk_cell BK190.out 0).trans rfl
              have hfz40_0 := blk_frozen BK190.out 0
              have p197 : 0 ≤ ((rd x12_1 (ji15)) : Int) := of_decide_eq_true (by first | (with_reducible assumption) | assumption)
              have q197 : (rd x12_1 (ji15)) < (l2_0.length : Int) := of_decide_eq_true (by first | (with_reducible assumption) | assumption)
              obtain ⟨ad197, A197_1, c197_1, e197, hx197_0, hx197_1, hl197_1, hi197_1⟩ := at_T61 HR2_0.out (rd x12_1 (ji15)) p197 q197
              cases e197
              replace hx197_0 := (HB.out.cell (World.block_lt_of_cell? w _ hx197_0)).trans hx197_0
              replace hx197_1 := (HB.out.cell (World.block_lt_of_cell? w _ hx197_1)).trans hx197_1
              have HR197_1 := Aside0.mk hi197_1
              have HC197_1 := Aside0.mk hl197_1
              clear hi197_1 hl197_1
              replace p197 := eq_true p197
              replace q197 := eq_true q197
              try go_wp2_with (first | ((with_reducible refine gate_callee (f := 29) rfl ?_); refine goesL_ (some 41) rfl rfl Tryz.func29 (by kernel_rfl) rfl #[.int .i64 a0, .slice A1 l1.length c1, .slice A3 l3.length c3, .slice A197_1 ((rd_T61 l2_0 (rd x12_1 (ji15))).f1).length c197_1] rfl (by (try simp only [List.map_toArray, List.map_cons, List.map_nil]); first | done | (simp only [hji15]; rfl) | rfl | (simp only [List.length_drop, List.length_take]; rfl)) ?_; (with_reducible refine (antiquaryref27_Order.calls k1 a0 _ _ l1 _ _ l3 _ _ ((rd_T61 l2_0 (rd x12_1 (ji15))).f1) t198 _ ?side1 ?side2 ?side3 ?side4 ?side5 ?side6 A20.out).mono ?_); (case side1 => repeat (first | exact (Kd.C_below HR1.out HB.out) | (with_reducible refine Kd.C_alloc ?_ _) | (with_reducible refine Kd.C_drewN ?_ _) | (with_reducible refine Kd.C_drew ?_))); (case side2 => exact HC1.out); (case side3 => repeat (first | exact (Kd.C_below HR3.out HB.out) | (with_reducible refine Kd.C_alloc ?_ _) | (with_reducible refine Kd.C_drewN ?_ _) | (with_reducible refine Kd.C_drew ?_))); (case side4 => exact HC3.out); (case side5 => repeat (first | exact (Kd.C_below HR197_1.out HB.out) | (with_reducible refine Kd.C_alloc ?_ _) | (with_reducible refine Kd.C_drewN ?_ _) | (with_reducible refine Kd.C_drew ?_))); (case side6 => exact HC197_1.out); rintro e w41 ⟨v199, rfl, ho0, hb⟩; refine ⟨_, rfl, ?_⟩; have n0_ := Aside0.mk (Kd.R_elder' (by (with_reducible repeat (first | apply Kd.R_alloc | apply Kd.R_drewN | apply Kd.R_drew)); exact HO_12.out) (Kd.R_base ho0) hb); have n1_ := Aside0.mk (Kd.R_lower (Kd.R_new' ho0 (Kd.R_lt (by (with_reducible repeat (first | apply Kd.R_alloc | apply Kd.R_drewN | apply Kd.R_drew)); exact HO_12.out))) (below_size (by repeat (first | (with_reducible first | exact HB.out | apply below_alloc | apply pw_below_drewN | apply below_drew1 | refine below_set ?_ GE190.out | refine below_set ?_ GE191.out) | exact HB.out)))); have n2_ := Aside0.mk (blk_below (g := gb190) (o := .cells #[.slice (some ad197) l2_0.length c2_0] 25 (0, 0)) (by (with_reducible repeat (first | refine blk_drewN ?_ _ | refine blk_drew ?_ | refine blk_alloc ?_ _)); exact BK190.out) hb); have n3_ := Aside0.mk (blk_below (g := gb191) (o := .cells #[.slice none 0 0, .int .i64 x192001_1, .bool x192002_1, .int .i64 x192003_1] 36 (0, 0)) (by (with_reducible repeat (first | refine blk_drewN ?_ _ | refine blk_drew ?_ | refine blk_alloc ?_ _)); exact BK191.out) hb); have n4_ := Aside0.mk (below_step (by repeat (first | (with_reducible first | exact HB.out | apply below_alloc | apply pw_below_drewN | apply below_drew1 | refine below_set ?_ GE190.out | refine below_set ?_ GE191.out) | exact HB.out)) hb); clear HO_12; clear BK190; clear BK191; clear HB; have HO_12 := n0_; have HO200 := n1_; have BK190 := n2_; have BK191 := n3_; have HB := n4_; clear n0_ n1_ n2_ n3_ n4_; (try clear hb); (try clear hb2); (try clear hk); (try clear hi); (try clear ho0)))
              have n0_ := Aside0.mk (Kd.R_drew HO_12.out)
              have n1_ := Aside0.mk (Kd.R_drew HO200.out)
              have n2_ := Aside0.mk (blk_drew BK190.out)
              have n3_ := Aside0.mk (blk_drew BK191.out)
              have n4_ := Aside0.mk (below_drew1 HB.out)
              clear HO_12
              clear HO200
              clear BK190
              clear BK191
              clear HB
              have HO_12 := n0_
              have HO200 := n1_
              have BK190 := n2_
              have BK191 := n3_
              have HB := n4_
              clear n0_ n1_ n2_ n3_ n4_
              obtain ⟨Ao43, co43, eo43⟩ := Kd.R_slice HO200.out
              (first | subst eo43 | (injection eo43 with f1_ f2_ f3_; have f4_ := f1_.symm; have f5_ := f3_.symm; clear f1_ f2_ f3_; subst f4_; subst f5_))
              have p201 : 0 ≤ (0 : Int) := (by omega)
              have q201 : 0 < (t198.length : Int) := of_decide_eq_true (by first | (with_reducible assumption) | assumption)
              obtain ⟨ad201, e201, hx201_0⟩ := Kd.at_int (Kd.R_reads' HO200.out).2.2 0 p201 q201
              cases e201
              have qi201 : (0 < t198.length) = True := eq_true (by omega)
              (try rw [show ((0 : Int)).toNat = 0 from rfl] at hx201_0)
              (try rw [Addr.add_zero'] at hx201_0)
              replace p201 := eq_true p201
              replace q201 := eq_true q201
              have p202 : 0 ≤ ((rd t198 0) : Int) := of_decide_eq_true (by first | (with_reducible assumption) | assumption)
              have q202 : (rd t198 0) < (l1.length : Int) := of_decide_eq_true (by first | (with_reducible assumption) | assumption)
              obtain ⟨ad202, A202_0, c202_0, e202, hx202_0, hl202_0, hi202_0⟩ := at_L1 HR1.out (rd t198 0) p202 q202
              have hw202_0 := hx202_0
              cases e202
              replace hx202_0 := (HB.out.cell (World.block_lt_of_cell? w _ hx202_0)).trans hx202_0
              have HR202_0 := Aside0.mk hi202_0
              have HC202_0 := Aside0.mk hl202_0
              clear hi202_0 hl202_0
              replace p202 := eq_true p202
              replace q202 := eq_true q202
              have p204 : 0 ≤ ((rd x12_1 (ji15)) : Int) := of_decide_eq_true (by first | (with_reducible assumption) | assumption)
              have q204 : (rd x12_1 (ji15)) < (l1.length : Int) := of_decide_eq_true (by first | (with_reducible assumption) | assumption)
              obtain ⟨ad204, A204_0, c204_0, e204, hx204_0, hl204_0, hi204_0⟩ := at_L1 HR1.out (rd x12_1 (ji15)) p204 q204
              have hw204_0 := hx204_0
              obtain rfl : ad202 = ad204 := (by injection e204)
              replace hx204_0 := (HB.out.cell (World.block_lt_of_cell? w _ hx204_0)).trans hx204_0
              have HR204_0 := Aside0.mk hi204_0
              have HC204_0 := Aside0.mk hl204_0
              clear hi204_0 hl204_0
              replace p204 := eq_true p204
              replace q204 := eq_true q204
              refine start_ (n := 17) (S := fun w' => w'.cell? ad201 = some (.int .i64 (rd t198 0)) ∧ w'.cell? (ad202.add ((rd t198 0)).toNat) = some (.slice A202_0 (rd_L1 l1 (rd t198 0)).length c202_0) ∧ w'.cell? (ad202.add ((rd x12_1 (ji15))).toNat) = some (.slice A204_0 (rd_L1 l1 (rd x12_1 (ji15))).length c204_0)) (ds := []) #[false, false, false, false, false, false, false, false, false, false, false, false, false, false, false, false, false] (by kernel_rfl) rfl rfl ⟨hx201_0, ((HB.out.cell (World.block_lt_of_cell? w _ hw202_0)).trans hw202_0), ((HB.out.cell (World.block_lt_of_cell? w _ hw204_0)).trans hw204_0)⟩ (fun hHeld => ?_); refine with_tabW antiquaryref27_Walk.tab7 antiquaryref27_Walk.bits7 (fun HT_ HW_ => ?_)
              generalize w41.drew = w42 at HO_12 HO200 BK190 BK191 HB HR202_0 HR204_0 hx201_0 hx202_0 hx204_0 hHeld ⊢
              refine pure_ (i := 0) (N := some 42) (v := ?_) (a' := ?_) #[true, false, false, false, false, false, false, false, false, false, false, false, false, false, false, false, false] rfl rfl (any_of HT_.out (by kernel_rfl)) (fun _ _ _ h => h) (Or.inl ⟨by rfl, ?_⟩) ?_ ?_
              rotate_left
              ·intro w'
               go_simp
               with_reducible rfl
              rotate_left
              ·simp only [Act.put, List.setIfInBounds_toArray, List.set_cons_zero, List.set_cons_succ, i64_w, i32_w]
               rfl
              refine pure_ (i := 1) (N := some 43) (v := ?_) (a' := ?_) #[true, true, false, false, false, false, false, false, false, false, false, false, false, false, false, false, false] rfl rfl (any_of HT_.out (by kernel_rfl)) (fun _ _ _ h => h) (Or.inl ⟨by rfl, ?_⟩) ?_ ?_
              rotate_left
              ·intro w'
               go_simp
               with_reducible rfl
              rotate_left
              ·simp only [Act.put, List.setIfInBounds_toArray, List.set_cons_zero, List.set_cons_succ, i64_w, i32_w]
               rfl
              refine pure_ (i := 2) (N := some 44) (v := ?_) (a' := ?_) #[true, true, true, false, false, false, false, false, false, false, false, false, false, false, false, false, false] rfl rfl (any_of HT_.out (by kernel_rfl)) (fun _ _ _ h => h) (Or.inl ⟨by rfl, ?_⟩) ?_ ?_
              rotate_left
              ·intro w'
               go_simp
               with_reducible rfl
              rotate_left
              ·simp only [Act.put, List.setIfInBounds_toArray, List.set_cons_zero, List.set_cons_succ, i64_w, i32_w]
               rfl
              refine pure_ (i := 3) (N := some 45) (v := ?_) (a' := ?_) #[true, true, true, true, false, false, false, false, false, false, false, false, false, false, false, false, false] rfl rfl (any_of HT_.out (by kernel_rfl)) (fun _ _ _ h => h) (Or.inl ⟨by rfl, ?_⟩) ?_ ?_
              rotate_left
              ·intro w'
               go_simp
               with_reducible rfl
              rotate_left
              ·simp only [Act.put, List.setIfInBounds_toArray, List.set_cons_zero, List.set_cons_succ, i64_w, i32_w]
               rfl
              refine pure_ (i := 7) (N := some 49) (v := ?_) (a' := ?_) #[true, true, true, true, false, false, false, true, false, false, false, false, false, false, false, false, false] rfl rfl (any_of HT_.out (by kernel_rfl)) (fun _ _ _ h => h) (Or.inl ⟨by rfl, ?_⟩) ?_ ?_
              rotate_left
              ·intro w'
               go_simp
               with_reducible rfl
              rotate_left
              ·simp only [Act.put, List.setIfInBounds_toArray, List.set_cons_zero, List.set_cons_succ, i64_w, i32_w]
               rfl
              refine pure_ (i := 9) (N := some 51) (v := ?_) (a' := ?_) #[true, true, true, true, false, false, false, true, false, true, false, false, false, false, false, false, false] rfl rfl (any_of HT_.out (by kernel_rfl)) (fun _ _ _ h => h) (Or.inl ⟨by rfl, ?_⟩) ?_ ?_
              rotate_left
              ·intro w'
               go_simp
               with_reducible rfl
              rotate_left
              ·simp only [Act.put, List.setIfInBounds_toArray, List.set_cons_zero, List.set_cons_succ, i64_w, i32_w]
               rfl
              refine pure_ (i := 10) (N := some 52) (v := ?_) (a' := ?_) #[true, true, true, true, false, false, false, true, false, true, true, false, false, false, false, false, false] rfl rfl (any_of HT_.out (by kernel_rfl)) (fun _ _ _ h => h) (Or.inl ⟨by rfl, ?_⟩) ?_ ?_
              rotate_left
              ·intro w'
               go_simp
               with_reducible rfl
              rotate_left
              ·simp only [Act.put, List.setIfInBounds_toArray, List.set_cons_zero, List.set_cons_succ, i64_w, i32_w]
               rfl
              refine pure_ (i := 11) (N := some 53) (v := ?_) (a' := ?_) #[true, true, true, true, false, false, false, true, false, true, true, true, false, false, false, false, false] rfl rfl (any_of HT_.out (by kernel_rfl)) (fun _ _ _ h => h) (Or.inl ⟨by rfl, ?_⟩) ?_ ?_
              rotate_left
              ·intro w'
               go_simp
               with_reducible rfl
              rotate_left
              ·simp only [Act.put, List.setIfInBounds_toArray, List.set_cons_zero, List.set_cons_succ, i64_w, i32_w]
               rfl
              refine pure_ (i := 12) (N := some 54) (v := ?_) (a' := ?_) #[true, true, true, true, false, false, false, true, false, true, true, true, true, false, false, false, false] rfl rfl (any_of HT_.out (by kernel_rfl)) (fun _ _ _ h => h) (Or.inl ⟨by rfl, ?_⟩) ?_ ?_
              rotate_left
              ·intro w'
               go_simp
               with_reducible rfl
              rotate_left
              ·simp only [Act.put, List.setIfInBounds_toArray, List.set_cons_zero, List.set_cons_succ, i64_w, i32_w]
               rfl
              refine pure_ (i := 14) (N := some 56) (v := ?_) (a' := ?_) #[true, true, true, true, false, false, false, true, false, true, true, true, true, false, true, false, false] rfl rfl (any_of HT_.out (by kernel_rfl)) (fun _ _ _ h => h) (Or.inl ⟨by rfl, ?_⟩) ?_ ?_
              rotate_left
              ·intro w'
               go_simp
               with_reducible rfl
              rotate_left
              ·simp only [Act.put, List.setIfInBounds_toArray, List.set_cons_zero, List.set_cons_succ, i64_w, i32_w]
               rfl
              refine take_ (i := 4) (N := some 46) (v := ?_) (a' := ?_) #[true, true, true, true, true, false, false, true, false, true, true, true, true, false, true, false, false] rfl rfl (take_ofW HT_.out HW_.out (by kernel_rfl)) (fun _ _ _ h => h) (Or.inl ⟨by rfl, ?_⟩) hHeld ?_ ?_
              rotate_left
              ·rintro w' ⟨s0, s1, s2⟩
               go_simp
               with_reducible rfl
              rotate_left
              ·simp only [Act.put, List.setIfInBounds_toArray, List.set_cons_zero, List.set_cons_succ, i64_w, i32_w]
               rfl
              refine pure_ (i := 5) (N := some 47) (v := ?_) (a' := ?_) #[true, true, true, true, true, true, false, true, false, true, true, true, true, false, true, false, false] rfl rfl (any_of HT_.out (by kernel_rfl)) (fun _ _ _ h => h) (Or.inl ⟨by rfl, ?_⟩) ?_ ?_
              rotate_left
              ·intro w'
               go_simp
               with_reducible rfl
              rotate_left
              ·simp only [Act.put, List.setIfInBounds_toArray, List.set_cons_zero, List.set_cons_succ, i64_w, i32_w]
               rfl
              refine take_ (i := 6) (N := some 48) (v := ?_) (a' := ?_) #[true, true, true, true, true, true, true, true, false, true, true, true, true, false, true, false, false] rfl rfl (take_ofW HT_.out HW_.out (by kernel_rfl)) (fun _ _ _ h => h) (Or.inl ⟨by rfl, ?_⟩) hHeld ?_ ?_
              rotate_left
              ·rintro w' ⟨s0, s1, s2⟩
               go_simp
               with_reducible rfl
              rotate_left
              ·simp only [Act.put, List.setIfInBounds_toArray, List.set_cons_zero, List.set_cons_succ, i64_w, i32_w]
               rfl
              refine take_ (i := 13) (N := some 55) (v := ?_) (a' := ?_) #[true, true, true, true, true, true, true, true, false, true, true, true, true, true, true, false, false] rfl rfl (take_ofW HT_.out HW_.out (by kernel_rfl)) (fun _ _ _ h => h) (Or.inl ⟨by rfl, ?_⟩) hHeld ?_ ?_
              rotate_left
              ·rintro w' ⟨s0, s1, s2⟩
               go_simp
               with_reducible rfl
              rotate_left
              ·simp only [Act.put, List.setIfInBounds_toArray, List.set_cons_zero, List.set_cons_succ, i64_w, i32_w]
               rfl
              refine one_ (i := 8) (N := some 50) #[true, true, true, true, true, true, true, true, true, true, true, true, true, true, true, false, false] rfl rfl (one_of HT_.out (by kernel_rfl)) (by decide) (fun K hK => ?_)
              refine goes_ Tryz.func39 (by kernel_rfl) rfl #[.int .i64 a0, .slice A202_0 (rd_L1 l1 (rd t198 0)).length c202_0, .slice A3 l3.length c3] (by rfl) rfl rfl (by (try simp only [List.map_toArray, List.map_cons, List.map_nil]); first | done | rfl | (simp only [List.length_drop, List.length_take]; rfl)) ?_
              with_reducible refine (antiquaryref04_Key.calls k1 a0 _ _ (rd_L1 l1 (rd t198 0)) _ _ l3 t203 _ ?side1 ?side2 ?side3 ?side4 A24.out).mono ?_
              (case side1 => repeat (first | exact (Kd.C_below HR202_0.out HB.out) | (with_reducible refine Kd.C_alloc ?_ _) | (with_reducible refine Kd.C_drewN ?_ _) | (with_reducible refine Kd.C_drew ?_)))
              (case side2 => exact HC202_0.out)
              (case side3 => repeat (first | exact (Kd.C_below HR3.out HB.out) | (with_reducible refine Kd.C_alloc ?_ _) | (with_reducible refine Kd.C_drewN ?_ _) | (with_reducible refine Kd.C_drew ?_)))
              (case side4 => exact HC3.out)
              rintro e w44 ⟨rfl, hb⟩
              have HS0_ := (hb.cell (World.block_lt_of_cell? _ _ (hHeld.1))).trans (hHeld.1)
              refine ⟨_, rfl, ?_⟩
              have n0_ := Aside0.mk (Kd.R_below (by (with_reducible repeat (first | apply Kd.R_alloc | apply Kd.R_drewN | apply Kd.R_drew)); exact HO_12.out) hb)
              have n1_ := Aside0.mk (Kd.R_below (by (with_reducible repeat (first | apply Kd.R_alloc | apply Kd.R_drewN | apply Kd.R_drew)); exact HO200.out) hb)
              have n2_ := Aside0.mk (blk_below (g := gb190) (o := .cells #[.slice (some ad197) l2_0.length c2_0] 25 (0, 0)) (by (with_reducible repeat (first | refine blk_drewN ?_ _ | refine blk_drew ?_ | refine blk_alloc ?_ _)); exact BK190.out) hb)
              have n3_ := Aside0.mk (blk_below (g := gb191) (o := .cells #[.slice none 0 0, .int .i64 x192001_1, .bool x192002_1, .int .i64 x192003_1] 36 (0, 0)) (by (with_reducible repeat (first | refine blk_drewN ?_ _ | refine blk_drew ?_ | refine blk_alloc ?_ _)); exact BK191.out) hb)
              have n4_ := Aside0.mk (below_step (by repeat (first | (with_reducible first | exact HB.out | apply below_alloc | apply pw_below_drewN | apply below_drew1 | refine below_set ?_ GE190.out | refine below_set ?_ GE191.out) | exact HB.out)) hb)
              clear HO_12
              clear HO200
              clear BK190
              clear BK191
              clear HB
              have HO_12 := n0_
              have HO200 := n1_
              have BK190 := n2_
              have BK191 := n3_
              have HB := n4_
              clear n0_ n1_ n2_ n3_ n4_
              (try clear hb)
              (try clear hb2)
              (try clear hk)
              (try clear hi)
              refine hK.out _ _ ⟨HS0_, ((HB.out.cell (World.block_lt_of_cell? w _ hw202_0)).trans hw202_0), ((HB.out.cell (World.block_lt_of_cell? w _ hw204_0)).trans hw204_0)⟩ (fun hHeld => ?_)
              clear hK K
              refine norm_ (a' := ?_) ?_ ?_
              rotate_left
              ·show Act.put _ (some 50) _ = _
               simp only [Act.put, List.setIfInBounds_toArray, List.set_cons_zero, List.set_cons_succ, i64_w, i32_w]
               rfl
              refine one_ (i := 15) (N := some 57) #[true, true, true, true, true, true, true, true, true, true, true, true, true, true, true, true, false] rfl rfl (one_of HT_.out (by kernel_rfl)) (by decide) (fun K hK => ?_)
              refine goes_ Tryz.func39 (by kernel_rfl) rfl #[.int .i64 a0, .slice A204_0 (rd_L1 l1 (rd x12_1 (ji15))).length c204_0, .slice A3 l3.length c3] (by rfl) rfl rfl (by (try simp only [List.map_toArray, List.map_cons, List.map_nil]); first | done | (simp only [hji15]; rfl) | rfl | (simp only [List.length_drop, List.length_take]; rfl)) ?_
              with_reducible refine (antiquaryref04_Key.calls k1 a0 _ _ (rd_L1 l1 (rd x12_1 (ji15))) _ _ l3 t205 _ ?side1 ?side2 ?side3 ?side4 A26.out).mono ?_
              (case side1 => repeat (first | exact (Kd.C_below HR204_0.out HB.out) | (with_reducible refine Kd.C_alloc ?_ _) | (with_reducible refine Kd.C_drewN ?_ _) | (with_reducible refine Kd.C_drew ?_)))
              (case side2 => exact HC204_0.out)
              (case side3 => repeat (first | exact (Kd.C_below HR3.out HB.out) | (with_reducible refine Kd.C_alloc ?_ _) | (with_reducible refine Kd.C_drewN ?_ _) | (with_reducible refine Kd.C_drew ?_)))
              (case side4 => exact HC3.out)
              rintro e w45 ⟨rfl, hb⟩
              have HS0_ := (hb.cell (World.block_lt_of_cell? _ _ (hHeld.1))).trans (hHeld.1)
              refine ⟨_, rfl, ?_⟩
              have n0_ := Aside0.mk (Kd.R_below (by (with_reducible repeat (first | apply Kd.R_alloc | apply Kd.R_drewN | apply Kd.R_drew)); exact HO_12.out) hb)
              have n1_ := Aside0.mk (Kd.R_below (by (with_reducible repeat (first | apply Kd.R_alloc | apply Kd.R_drewN | apply Kd.R_drew)); exact HO200.out) hb)
              have n2_ := Aside0.mk (blk_below (g := gb190) (o := .cells #[.slice (some ad197) l2_0.length c2_0] 25 (0, 0)) (by (with_reducible repeat (first | refine blk_drewN ?_ _ | refine blk_drew ?_ | refine blk_alloc ?_ _)); exact BK190.out) hb)
              have n3_ := Aside0.mk (blk_below (g := gb191) (o := .cells #[.slice none 0 0, .int .i64 x192001_1, .bool x192002_1, .int .i64 x192003_1] 36 (0, 0)) (by (with_reducible repeat (first | refine blk_drewN ?_ _ | refine blk_drew ?_ | refine blk_alloc ?_ _)); exact BK191.out) hb)
              have n4_ := Aside0.mk (below_step (by repeat (first | (with_reducible first | exact HB.out | apply below_alloc | apply pw_below_drewN | apply below_drew1 | refine below_set ?_ GE190.out | refine below_set ?_ GE191.out) | exact HB.out)) hb)
              clear HO_12
              clear HO200
              clear BK190
              clear BK191
              clear HB
              have HO_12 := n0_
              have HO200 := n1_
              have BK190 := n2_
              have BK191 := n3_
              have HB := n4_
              clear n0_ n1_ n2_ n3_ n4_
              (try clear hb)
              (try clear hb2)
              (try clear hk)
              (try clear hi)
              refine hK.out _ _ ⟨HS0_, ((HB.out.cell (World.block_lt_of_cell? w _ hw202_0)).trans hw202_0), ((HB.out.cell (World.block_lt_of_cell? w _ hw204_0)).trans hw204_0)⟩ (fun hHeld => ?_)
              clear hK K
              refine norm_ (a' := ?_) ?_ ?_
              rotate_left
              ·show Act.put _ (some 57) _ = _
               simp only [Act.put, List.setIfInBounds_toArray, List.set_cons_zero, List.set_cons_succ, i64_w, i32_w]
               rfl
              refine pure_ (i := 16) (N := some 58) (v := ?_) (a' := ?_) #[true, true, true, true, true, true, true, true, true, true, true, true, true, true, true, true, true] rfl rfl (any_of HT_.out (by kernel_rfl)) (fun _ _ _ h => h) (Or.inl ⟨by rfl, ?_⟩) ?_ ?_
              rotate_left
              ·intro w'
               go_simp
               with_reducible rfl
              rotate_left
              ·simp only [Act.put, List.setIfInBounds_toArray, List.set_cons_zero, List.set_cons_succ, i64_w, i32_w]
               rfl
              refine done_ (done_of HT_.out (by kernel_rfl)) ?_
              have p206 : 0 ≤ (0 : Int) := (by omega)
              have q206 : 0 < (t198.length : Int) := of_decide_eq_true (by first | (with_reducible assumption) | assumption)
              obtain ⟨ad206, e206, hx206_0⟩ := Kd.at_int (Kd.R_reads' HO200.out).2.2 0 p206 q206
              obtain rfl : ad201 = ad206 := (by injection e206)
              have qi206 : (0 < t198.length) = True := eq_true (by omega)
              (try rw [show ((0 : Int)).toNat = 0 from rfl] at hx206_0)
              (try rw [Addr.add_zero'] at hx206_0)
              replace p206 := eq_true p206
              replace q206 := eq_true q206
              try go_wp2_with (first | ((with_reducible refine gate_builtin (b := .append) (xs := #[.tmp 61, .tmp 65]) rfl ?_); at_builtin; refine Kd.R_append (Kd.int .i64) (w0 := w) w.heap.size rfl (.tmp 61) (.tmp 65) 26 3 (.int .i64 0) 8 rfl Tryz.underlying26 info3 rfl (by decide) (by omega) (.slice (some ad196) x12_1.length co38) x12_1 (rd t198 0) [.int .i64 (rd t198 0)] (fun k_ => some k_ ≠ (.slice (some ad201) t198.length co43 : Value).ownBlock) (fun _ => False) rfl rfl ?aP (fun _ hk => hk.elim) ?aF ?aO ?aB ?aS ?aL ?_; (case aP => exact rfl); (case aB => exact (by repeat (first | (with_reducible first | exact HB.out | apply below_alloc | apply pw_below_drewN | apply below_drew1 | refine below_set ?_ GE190.out | refine below_set ?_ GE191.out) | exact HB.out))); (case aF => exact (fun k_ hk => Kd.fresh' (Kd.R_lt (by (with_reducible repeat (first | apply Kd.R_alloc | apply Kd.R_drewN | apply Kd.R_drew)); exact HO200.out)) k_ hk)); (case aO => exact (by (with_reducible repeat (first | apply Kd.R_alloc | apply Kd.R_drewN | apply Kd.R_drew)); exact Kd.R_mono HO_12.out (fun _ hk => hk.2))); (case aS => exact (below_size (by repeat (first | (with_reducible first | exact HB.out | apply below_alloc | apply pw_below_drewN | apply below_drew1 | refine below_set ?_ GE190.out | refine below_set ?_ GE191.out) | exact HB.out)))); (case aL => have := LMc37.out; omega); intro v208 w46 ho hb hg hat; rw [← Ny207.out] at ho; have n0_ := Aside0.mk (blk_grown (g := gb190) (o := .cells #[.slice (some ad197) l2_0.length c2_0] 25 (0, 0)) (by (with_reducible repeat (first | refine blk_drewN ?_ _ | refine blk_drew ?_ | refine blk_alloc ?_ _)); exact BK190.out) hg (Kd.R_ne HO_12.out BK190.out (by decide))); have n1_ := Aside0.mk (blk_grown (g := gb191) (o := .cells #[.slice none 0 0, .int .i64 x192001_1, .bool x192002_1, .int .i64 x192003_1] 36 (0, 0)) (by (with_reducible repeat (first | refine blk_drewN ?_ _ | refine blk_drew ?_ | refine blk_alloc ?_ _)); exact BK191.out) hg (Kd.R_ne HO_12.out BK191.out (by decide))); have n2_ := Aside0.mk (Kd.R_after (ok := (fun _ => True)) (by (with_reducible repeat (first | apply Kd.R_alloc | apply Kd.R_drewN | apply Kd.R_drew)); exact HO200.out) hg hat); have n3_ := Aside0.mk (hb); have n4_ := Aside0.mk (ho); clear BK190; clear BK191; clear HO200; clear HB; clear HO_12; have BK190 := n0_; have BK191 := n1_; have HO200 := n2_; have HB := n3_; have HO209 := n4_; clear n0_ n1_ n2_ n3_ n4_; clear ho hb hg hat))
              go_roundg k1
              case measure => have := HK1.out; omega
              case rel => exact ⟨(y207), (x192001_1), (x192002_1), (x192003_1), H', ⟨by have := HK1.out; omega⟩, ⟨by (with_reducible repeat (first | apply Kd.R_alloc | apply Kd.R_drewN | apply Kd.R_drew)); exact Kd.R_mono HO209.out (fun _ hk => trivial)⟩, ⟨by (with_reducible repeat (first | refine blk_drewN ?_ _ | refine blk_drew ?_ | refine blk_alloc ?_ _)); exact BK190.out⟩, ⟨by (with_reducible repeat (first | refine blk_drewN ?_ _ | refine blk_drew ?_ | refine blk_alloc ?_ _)); exact BK191.out⟩, ⟨by repeat (first | (with_reducible first | exact HB.out | apply below_alloc | apply pw_below_drewN | apply below_drew1 | refine below_set ?_ GE190.out | refine below_set ?_ GE191.out) | exact HB.out)⟩⟩
             ·rw [if_neg c37] at H
              exact absurd H (by simp)
           ·rw [if_neg c25] at H
            exact absurd H (by simp)
          ·rw [if_neg c23] at H
           exact absurd H (by simp)
         ·rw [if_neg c22] at H
          exact absurd H (by simp)
        ·rw [if_neg c21] at H
         exact absurd H (by simp)
       ·rw [if_neg c19] at H
        exact absurd H (by simp)
      ·rw [if_neg c18] at H
       exact absurd H (by simp)
     ·rw [if_neg c17] at H
      exact absurd H (by simp)
    ·rw [if_neg c16] at H
     exact absurd H (by simp)
 ·replace c7 := Bool.eq_false_iff.mpr c7
  subst c7
  have H1 : (some (([] : List Int), 0, false, 1)) = some (r1, r2, r3, r4) := by rw [if_neg (show ¬ (false = true) by decide)] at H; exact H
  clear H
  have H := H1
  clear H1
  simp only [Option.some.injEq, Prod.mk.injEq] at H
  obtain ⟨rfl, rfl, rfl, rfl⟩ := H
  go_enter Tryz.func12, Tryz.ntmps12
  go_wp2_with (first | ((with_reducible refine gate_dst (N := 7) rfl ?_); refine box_event ?hg (N := 7) ?hd (cs := #[.slice A2_0 l2_0.length c2_0]) (t := 25) ?hr ?_; (case hd => rfl); (case hg => rfl); (case hr => first | (go_simp; done) | (go_simp; rfl)); intro gb190 hg w47 hbox hb; have n0_ := Aside0.mk (below_step (by repeat (first | (with_reducible first | exact HB.out | apply below_alloc | apply pw_below_drewN | apply below_drew1) | exact HB.out)) hb); have n1_ := Aside0.mk (hbox); have n2_ := Aside0.mk ((by rw [hg]; exact (below_size (by repeat (first | (with_reducible first | exact HB.out | apply below_alloc | apply pw_below_drewN | apply below_drew1) | exact HB.out))) : w.heap.size ≤ gb190)); have n3_ := Aside0.mk ((by rw [hg]; exact (below_size (by repeat (first | (with_reducible first | exact HB.out | apply below_alloc | apply pw_below_drewN | apply below_drew1) | exact HB.out))) : w.heap.size ≤ gb190)); clear HB; have HB := n0_; have BK190 := n1_; have GW190 := n2_; have GE190 := n3_; clear n0_ n1_ n2_ n3_; clear hb hbox hg) | ((with_reducible refine gate_dst (N := 10) rfl ?_); refine box_event ?hg (N := 10) ?hd (cs := #[.slice none 0 0, .int .i64 0, .bool false, .int .i64 0]) (t := 36) ?hr ?_; (case hd => rfl); (case hg => rfl); (case hr => first | (go_simp; done) | (go_simp; rfl)); intro gb191 hg w48 hbox hb; have n0_ := Aside0.mk (blk_below (g := gb190) (o := .cells #[.slice A2_0 l2_0.length c2_0] 25 (0, 0)) (by (with_reducible repeat (first | refine blk_drewN ?_ _ | refine blk_drew ?_ | refine blk_alloc ?_ _)); exact BK190.out) hb); have n1_ := Aside0.mk (below_step (by repeat (first | (with_reducible first | exact HB.out | apply below_alloc | apply pw_below_drewN | apply below_drew1 | refine below_set ?_ GE190.out) | exact HB.out)) hb); have n2_ := Aside0.mk (hbox); have n3_ := Aside0.mk ((by rw [hg]; exact (below_size (by repeat (first | (with_reducible first | exact HB.out | apply below_alloc | apply pw_below_drewN | apply below_drew1 | refine below_set ?_ GE190.out) | exact HB.out))) : w.heap.size ≤ gb191)); have n4_ := Aside0.mk ((by rw [hg]; exact (below_size (by repeat (first | (with_reducible first | exact HB.out | apply below_alloc | apply pw_below_drewN | apply below_drew1 | refine below_set ?_ GE190.out) | exact HB.out))) : w.heap.size ≤ gb191)); have n5_ := Aside0.mk ((by rw [hg]; exact Nat.ne_of_lt (blk_lt (g := gb190) (o := .cells #[.slice A2_0 l2_0.length c2_0] 25 (0, 0)) (by (with_reducible repeat (first | refine blk_drewN ?_ _ | refine blk_drew ?_ | refine blk_alloc ?_ _)); exact BK190.out)) : gb190 ≠ gb191)); have n6_ := Aside0.mk ((by rw [hg]; exact Nat.ne_of_gt (blk_lt (g := gb190) (o := .cells #[.slice A2_0 l2_0.length c2_0] 25 (0, 0)) (by (with_reducible repeat (first | refine blk_drewN ?_ _ | refine blk_drew ?_ | refine blk_alloc ?_ _)); exact BK190.out)) : gb191 ≠ gb190)); clear BK190; clear HB; have BK190 := n0_; have HB := n1_; have BK191 := n2_; have GW191 := n3_; have GE191 := n4_; have NB190_191 := n5_; have NB191_190 := n6_; clear n0_ n1_ n2_ n3_ n4_ n5_ n6_; clear hb hbox hg; have hnb49 := NB190_191.out; have hnc49 := NB191_190.out; have hcz50_0 : w48.cell? ⟨gb190, 0, none⟩ = some (.slice A2_0 l2_0.length c2_0) := (blk_cell BK190.out 0).trans rfl; have hfz50_0 := blk_frozen BK190.out 0) | ((with_reducible refine gate_callee (f := 38) rfl ?_); refine goesL_ (some 20) rfl rfl Tryz.func38 (by kernel_rfl) rfl #[.int .i64 a0, .slice A1 l1.length c1, .agg #[.slice A2_0 l2_0.length c2_0], .slice A3 l3.length c3, .int .i64 a4] rfl (by (try simp only [List.map_toArray, List.map_cons, List.map_nil]); first | done | rfl | (simp only [List.length_drop, List.length_take]; rfl)) ?_; (with_reducible refine (antiquaryref27_asked.calls k a0 _ _ l1 _ _ l2_0 _ _ l3 a4 false _ ?side1 ?side2 ?side3 ?side4 ?side5 ?side6 A6.out).mono ?_); (case side1 => repeat (first | exact (Kd.C_below HR1.out HB.out) | (with_reducible refine Kd.C_alloc ?_ _) | (with_reducible refine Kd.C_drewN ?_ _) | (with_reducible refine Kd.C_drew ?_))); (case side2 => exact HC1.out); (case side3 => repeat (first | exact (Kd.C_below HR2_0.out HB.out) | (with_reducible refine Kd.C_alloc ?_ _) | (with_reducible refine Kd.C_drewN ?_ _) | (with_reducible refine Kd.C_drew ?_))); (case side4 => exact HC2_0.out); (case side5 => repeat (first | exact (Kd.C_below HR3.out HB.out) | (with_reducible refine Kd.C_alloc ?_ _) | (with_reducible refine Kd.C_drewN ?_ _) | (with_reducible refine Kd.C_drew ?_))); (case side6 => exact HC3.out); rintro e w51 ⟨rfl, hb⟩; refine ⟨_, rfl, ?_⟩; have n0_ := Aside0.mk (blk_below (g := gb190) (o := .cells #[.slice A2_0 l2_0.length c2_0] 25 (0, 0)) (by (with_reducible repeat (first | refine blk_drewN ?_ _ | refine blk_drew ?_ | refine blk_alloc ?_ _)); exact BK190.out) hb); have n1_ := Aside0.mk (blk_below (g := gb191) (o := .cells #[.slice none 0 0, .int .i64 0, .bool false, .int .i64 0] 36 (0, 0)) (by (with_reducible repeat (first | refine blk_drewN ?_ _ | refine blk_drew ?_ | refine blk_alloc ?_ _)); exact BK191.out) hb); have n2_ := Aside0.mk (below_step (by repeat (first | (with_reducible first | exact HB.out | apply below_alloc | apply pw_below_drewN | apply below_drew1 | refine below_set ?_ GE190.out | refine below_set ?_ GE191.out) | exact HB.out)) hb); clear BK190; clear BK191; clear HB; have BK190 := n0_; have BK191 := n1_; have HB := n2_; clear n0_ n1_ n2_; (try clear hb); (try clear hb2); (try clear hk); (try clear hi); have hcz52_0 : w51.cell? ⟨gb191, 0, none⟩ = some (.slice none 0 0) := (blk_cell BK191.out 0).trans rfl; have hcz52_1 : w51.cell? ⟨gb191, 1, none⟩ = some (.int .i64 0) := (blk_cell BK191.out 1).trans rfl; have hcz52_2 : w51.cell? ⟨gb191, 2, none⟩ = some (.bool false) := (blk_cell BK191.out 2).trans rfl; have hcz52_3 : w51.cell? ⟨gb191, 3, none⟩ = some (.int .i64 0) := (blk_cell BK191.out 3).trans rfl; have hfz52_0 := blk_frozen BK191.out 0; have hfz52_1 := blk_frozen BK191.out 1; have hfz52_2 := blk_frozen BK191.out 2; have hfz52_3 := blk_frozen BK191.out 3))
  refine bodyPost_ret (results_cell_row rfl _ _ gb191 36 #[.slice none 0 0, .int .i64 0, .bool false, .int .i64 1] (0, 0) _ rfl (by (with_reducible repeat (first | refine blk_drewN ?_ _ | refine blk_drew ?_ | refine blk_alloc ?_ _)); refine blk_put (cs := #[.slice none 0 0, .int .i64 0, .bool false, .int .i64 0]) ?_ 3 _ rfl; (with_reducible repeat (first | refine blk_drewN ?_ _ | refine blk_drew ?_ | refine blk_alloc ?_ _)); refine blk_put (cs := #[.slice none 0 0, .int .i64 0, .bool false, .int .i64 0]) ?_ 2 _ rfl; (with_reducible repeat (first | refine blk_drewN ?_ _ | refine blk_drew ?_ | refine blk_alloc ?_ _)); refine blk_put (cs := #[.slice none 0 0, .int .i64 0, .bool false, .int .i64 0]) ?_ 1 _ rfl; (with_reducible repeat (first | refine blk_drewN ?_ _ | refine blk_drew ?_ | refine blk_alloc ?_ _)); refine blk_put (cs := #[.slice none 0 0, .int .i64 0, .bool false, .int .i64 0]) ?_ 0 _ rfl; (with_reducible repeat (first | refine blk_drewN ?_ _ | refine blk_drew ?_ | refine blk_alloc ?_ _)); exact BK191.out) Tryz.underlying36 rfl (by kernel_rfl)) rfl ?_
  exact ⟨_, by first | rfl | (simp [errW_none, errW_some] <;> rfl) | (simp [*, errW_none, errW_some] <;> rfl), by first | exact Kd.R_nil _ _ _ _ _ | exact Kd.N_nil _ _ _ _ _ | exact Kd.V_nil _ _ _ _ _ | exact Kd.Q_nil _ _ _ _ _ | exact Kd.S_nil _ _ _ _ _, by repeat (first | (with_reducible first | exact HB.out | apply below_alloc | apply pw_below_drewN | apply below_drew1 | refine below_set ?_ GE190.out | refine below_set ?_ GE191.out) | exact HB.out)⟩
mutual
def antiquaryref05_Isqrt.j0 : Nat → Int → Option (Int)
 | 0, _ => none
 | k + 1, x0 => antiquaryref05_Isqrt.l0 k x0 0 30
def antiquaryref05_Isqrt.l0 : Nat → Int → Int → Int → Option (Int)
 | 0, _, _, _ => none
 | k + 1, x0, x3, x4 => if x4 ≥ 0 then (if 0 ≤ x4 then (if (wrap64 ((wrap64 (x3 + (shl .i64 1 x4))) * (wrap64 (x3 + (shl .i64 1 x4))))) ≤ x0 then (antiquaryref05_Isqrt.l0 k x0 (wrap64 (x3 + (shl .i64 1 x4))) (wrap64 (x4 - 1))) else (antiquaryref05_Isqrt.l0 k x0 x3 (wrap64 (x4 - 1)))) else (none)) else (some x3)
end
def antiquaryref05_Isqrt.f (k : Nat) (a0 : Int) : Option (Int) := if a0 > 1152921504606846976 then (antiquaryref05_Isqrt.j0 k 1152921504606846976) else (antiquaryref05_Isqrt.j0 k a0)
theorem antiquaryref05_Isqrt.mono_l : ∀ k, (∀ y0, LeO (antiquaryref05_Isqrt.j0 k y0) (antiquaryref05_Isqrt.j0 (k + 1) y0)) ∧ (∀ y0 y1 y2, LeO (antiquaryref05_Isqrt.l0 k y0 y1 y2) (antiquaryref05_Isqrt.l0 (k + 1) y0 y1 y2))
 | 0 => ⟨fun _ r h => by simp [antiquaryref05_Isqrt.j0] at h, fun _ _ _ r h => by simp [antiquaryref05_Isqrt.l0] at h⟩
 | k + 1 => by
  obtain ⟨ih0, ih1⟩ := antiquaryref05_Isqrt.mono_l k
  refine ⟨?_, ?_⟩
  ·intro y0
   unfold antiquaryref05_Isqrt.j0
   repeat' first
   | (with_reducible exact ih0 _)
   | (with_reducible exact ih1 _ _ _)
   | (with_reducible exact LeO.refl _)
   | (with_reducible exact LeO.none _)
   | (with_reducible refine LeO.ite ?_ ?_)
   | (with_reducible refine LeO.bind ?_ (fun _ => ?_))
   | exact ih0 _
   | exact ih1 _ _ _
   | exact LeO.none _
   | refine LeO.ite ?_ ?_
   | refine LeO.bind ?_ (fun _ => ?_)
  ·intro y0 y1 y2
   unfold antiquaryref05_Isqrt.l0
   repeat' first
   | (with_reducible exact ih0 _)
   | (with_reducible exact ih1 _ _ _)
   | (with_reducible exact LeO.refl _)
   | (with_reducible exact LeO.none _)
   | (with_reducible refine LeO.ite ?_ ?_)
   | (with_reducible refine LeO.bind ?_ (fun _ => ?_))
   | exact ih0 _
   | exact ih1 _ _ _
   | exact LeO.none _
   | refine LeO.ite ?_ ?_
   | refine LeO.bind ?_ (fun _ => ?_)
theorem antiquaryref05_Isqrt.mono : ∀ a0 k, LeO (antiquaryref05_Isqrt.f k a0) (antiquaryref05_Isqrt.f (k + 1) a0) := by
 intro a0 k
 obtain ⟨ih0, ih1⟩ := antiquaryref05_Isqrt.mono_l k
 unfold antiquaryref05_Isqrt.f
 repeat' first
   | (with_reducible exact ih0 _)
   | (with_reducible exact ih1 _ _ _)
   | (with_reducible exact LeO.refl _)
   | (with_reducible exact LeO.none _)
   | (with_reducible refine LeO.ite ?_ ?_)
   | (with_reducible refine LeO.bind ?_ (fun _ => ?_))
   | exact ih0 _
   | exact ih1 _ _ _
   | exact LeO.none _
   | refine LeO.ite ?_ ?_
   | refine LeO.bind ?_ (fun _ => ?_)
set_option maxHeartbeats 8000000 in
set_option maxRecDepth 100000 in
theorem antiquaryref05_Isqrt.calls (k : Nat) (a0 : Int) (r : Int) (w : World) (h : antiquaryref05_Isqrt.f k a0 = some r) :
  Calls Tryz.prog 66 #[.int .i64 a0] w fun e w' => e = .returned (.int .i64 r) ∧ Drawn0 w w' := by
 have H : (if a0 > 1152921504606846976 then (antiquaryref05_Isqrt.j0 k 1152921504606846976) else (antiquaryref05_Isqrt.j0 k a0)) = some r := h
 clear h
 have HC2 := Aside0.mk H
 clear H
 go_enter Tryz.func66, Tryz.ntmps66
 go_upto_if 7 with (fail)
 go_cut [0] (fun v0 wc => ∃ (kq : Nat) (x0_1 : Int), v0 = .int .i64 x0_1 ∧ Aside0 (antiquaryref05_Isqrt.j0 kq x0_1 = some r) ∧ Aside0 (kq ≤ k) ∧ Drawn0 w wc)
 case first =>
  have H := HC2.out
  clear HC2
  by_cases c3 : a0 > 1152921504606846976
  ·rw [if_pos c3] at H
   have c3b0 : decide (1152921504606846976 < a0) = true := decide_eq_true c3
   clear c3
   (first | rw [c3b0] | (simp only [i64_w, i32_w]; rw [c3b0]) | skip)
   have H' := Aside0.mk H
   clear H
   go_wp2
   go_meet
   case rel => exact ⟨_, (1152921504606846976), (by first | rfl | (simp; done) | (simp [*]; done)), H', ⟨by first | omega | exact Nat.le_refl _⟩, by repeat (first | exact Drawn0.refl _ | apply Drawn0.step)⟩
  ·rw [if_neg c3] at H
   have c3b0 : decide (1152921504606846976 < a0) = false := decide_eq_false c3
   clear c3
   (first | rw [c3b0] | (simp only [i64_w, i32_w]; rw [c3b0]) | skip)
   have H' := Aside0.mk H
   clear H
   go_wp2
   go_meet
   case rel => exact ⟨_, (a0), (by first | rfl | (simp; done) | (simp [*]; done)), H', ⟨by first | omega | exact Nat.le_refl _⟩, by repeat (first | exact Drawn0.refl _ | apply Drawn0.step)⟩
 case rest =>
  clear HC2
  try clear p2
  try clear c3
  try clear c3b0
  obtain ⟨kq, x0_1, rfl, HA, HJ1, ⟨mc1, rfl⟩⟩ := hcut
  cases kq with
  | zero => exact absurd HA.out (by simp [antiquaryref05_Isqrt.j0])
  | succ kj1 =>
   have H := HA.out
   clear HA
   simp only [antiquaryref05_Isqrt.j0] at H
   have H' := Aside0.mk H
   clear H
   go_wp2
   go_loopg [3, 4] kj1 (fun kq v3 v4 w' => ∃ (x3_2 : Int) (x4_2 : Int), v3 = .int .i64 x3_2 ∧ v4 = .int .i64 x4_2 ∧ Aside0 (antiquaryref05_Isqrt.l0 kq x0_1 x3_2 x4_2 = some r) ∧ Aside0 (kq ≤ kj1) ∧ Drawn0 w w')
   case atStart => exact ⟨(0), (30), (by first | rfl | (simp; done) | (simp [*]; done)), (by first | rfl | (simp; done) | (simp [*]; done)), H', ⟨Nat.le_refl _⟩, by repeat (first | exact Drawn0.refl _ | apply Drawn0.step)⟩
   case round =>
    clear H'
    try clear c1
    try clear p2
    try clear c3
    try clear c3b0
    try clear p2
    obtain ⟨x3_2, x4_2, rfl, rfl, HA, HK2, ⟨m2, rfl⟩⟩ := hrel
    cases gk with
    | zero => exact absurd HA.out (by simp [antiquaryref05_Isqrt.l0])
    | succ k2 =>
     have H := HA.out
     clear HA
     simp only [antiquaryref05_Isqrt.l0] at H
     by_cases c4 : x4_2 ≥ 0
     ·rw [if_pos c4] at H
      have c4b0 : decide (0 ≤ x4_2) = true := decide_eq_true c4
      clear c4
      by_cases c5 : 0 ≤ x4_2
      ·rw [if_pos c5] at H
       have c5b0 := eq_true c5
       have c5b1 : decide (0 ≤ x4_2) = true := decide_eq_true c5
       clear c5
       obtain ⟨ji6, hji6⟩ : ∃ j_ : Int, (shl .i64 1 x4_2) = j_ := ⟨_, rfl⟩
       replace H : (if (wrap64 ((wrap64 (x3_2 + (ji6))) * (wrap64 (x3_2 + (ji6))))) ≤ x0_1 then (antiquaryref05_Isqrt.l0 k2 x0_1 (wrap64 (x3_2 + (ji6))) (wrap64 (x4_2 - 1))) else (antiquaryref05_Isqrt.l0 k2 x0_1 x3_2 (wrap64 (x4_2 - 1)))) = some r := by first | (rw [hji6] at H; exact H) | (simp only [hji6] at H ⊢; exact H)
       have hji6_ : (IntKind.i64.wrap (1 * 2 ^ min x4_2.toNat 64)) = ji6 := hji6
       have hji6z : x4_2 ≤ 64 → (IntKind.i64.wrap (1 * 2 ^ x4_2.toNat)) = ji6 := shl_small hji6
       have hji6u : (IntKind.i64.wrap (2 ^ min x4_2.toNat 64)) = ji6 := by have h_ := hji6_; rw [Int.one_mul] at h_; exact h_
       have hji6v : x4_2 ≤ 64 → (IntKind.i64.wrap (2 ^ x4_2.toNat)) = ji6 := fun hle_ => by have h_ := hji6z hle_; rw [Int.one_mul] at h_; exact h_
       have hji6y : (wrap64 (1 * 2 ^ min x4_2.toNat 64)) = ji6 := (i64_w _).symm.trans hji6_
       have hji6x : x4_2 ≤ 64 → (wrap64 (1 * 2 ^ x4_2.toNat)) = ji6 := fun h_ => (i64_w _).symm.trans (hji6z h_)
       by_cases c7 : (wrap64 ((wrap64 (x3_2 + (ji6))) * (wrap64 (x3_2 + (ji6))))) ≤ x0_1
       ·rw [if_pos c7] at H
        have c7b0 : decide ((wrap64 ((wrap64 (x3_2 + (ji6))) * (wrap64 (x3_2 + (ji6))))) ≤ x0_1) = true := decide_eq_true c7
        clear c7
        have H' := Aside0.mk H
        clear H
        go_wp2
        go_roundg k2
        case measure => have := HJ1.out; have := HK2.out; omega
        case rel => exact ⟨(wrap64 (x3_2 + (ji6))), (wrap64 (x4_2 - 1)), (by first | rfl | (simp; done) | (simp only [← hji6] <;> (first | rfl | simp)) | (simp [*]; done)), (by first | rfl | (simp; done) | (simp [*]; done)), H', ⟨by have := HJ1.out; have := HK2.out; omega⟩, by repeat (first | exact Drawn0.refl _ | apply Drawn0.step)⟩
       ·rw [if_neg c7] at H
        have c7b0 : decide ((wrap64 ((wrap64 (x3_2 + (ji6))) * (wrap64 (x3_2 + (ji6))))) ≤ x0_1) = false := decide_eq_false c7
        clear c7
        have H' := Aside0.mk H
        clear H
        go_wp2
        go_roundg k2
        case measure => have := HJ1.out; have := HK2.out; omega
        case rel => exact ⟨(x3_2), (wrap64 (x4_2 - 1)), (by first | rfl | (simp; done) | (simp [*]; done)), (by first | rfl | (simp; done) | (simp [*]; done)), H', ⟨by have := HJ1.out; have := HK2.out; omega⟩, by repeat (first | exact Drawn0.refl _ | apply Drawn0.step)⟩
      ·rw [if_neg c5] at H
       exact absurd H (by simp)
     ·rw [if_neg c4] at H
      have c4b0 : decide (0 ≤ x4_2) = false := decide_eq_false c4
      clear c4
      obtain rfl := Option.some.inj H
      go_wp2
      go_ret
      exact ⟨by first | rfl | (simp; done) | (simp [*]; done), by repeat (first | exact Drawn0.refl _ | apply Drawn0.step)⟩
def antiquaryref05_High.f (k : Nat) (a0 : Int) (a1 : Int) (a2 : Int) : Option (Int) := if a0 = 2 then ((antiquaryref05_Isqrt.f k (wrap64 ((wrap64 (4 * a1)) * a2))).bind fun t210 => (if (wrap64 ((wrap64 (a1 + a2)) + t210)) > 134217728 then (some 134217728) else (some (wrap64 ((wrap64 (a1 + a2)) + t210))))) else (if (wrap64 (a1 + a2)) > 134217728 then (some 134217728) else (some (wrap64 (a1 + a2))))
theorem antiquaryref05_High.mono : ∀ a0 a1 a2 k, LeO (antiquaryref05_High.f k a0 a1 a2) (antiquaryref05_High.f (k + 1) a0 a1 a2) := by
 intro a0 a1 a2 k
 unfold antiquaryref05_High.f
 repeat' first
   | (with_reducible exact antiquaryref05_Isqrt.mono _ _)
   | (with_reducible exact LeO.refl _)
   | (with_reducible exact LeO.none _)
   | (with_reducible refine LeO.ite ?_ ?_)
   | (with_reducible refine LeO.bind ?_ (fun _ => ?_))
   | exact antiquaryref05_Isqrt.mono _ _
   | exact LeO.none _
   | refine LeO.ite ?_ ?_
   | refine LeO.bind ?_ (fun _ => ?_)
set_option maxHeartbeats 8000000 in
set_option maxRecDepth 100000 in
theorem antiquaryref05_High.calls (k : Nat) (a0 : Int) (a1 : Int) (a2 : Int) (r : Int) (w : World) (h : antiquaryref05_High.f k a0 a1 a2 = some r) :
  Calls Tryz.prog 41 #[.int .i64 a0, .int .i64 a1, .int .i64 a2] w fun e w' => e = .returned (.int .i64 r) ∧ Drawn0 w w' := by
 have H : (if a0 = 2 then ((antiquaryref05_Isqrt.f k (wrap64 ((wrap64 (4 * a1)) * a2))).bind fun t210 => (if (wrap64 ((wrap64 (a1 + a2)) + t210)) > 134217728 then (some 134217728) else (some (wrap64 ((wrap64 (a1 + a2)) + t210))))) else (if (wrap64 (a1 + a2)) > 134217728 then (some 134217728) else (some (wrap64 (a1 + a2))))) = some r := h
 clear h
 by_cases c4 : a0 = 2
 ·rw [if_pos c4] at H
  have c4b0 : (a0 == 2) = true := beq_iff_eq.mpr c4
  have c4b1 : (a0 != 2) = false := bne_eq_false_iff_eq.mpr c4
  clear c4
  replace H := Option.bind_eq_some_iff.mp H
  obtain ⟨t210, A50, H⟩ := H
  replace H : (if (wrap64 ((wrap64 (a1 + a2)) + t210)) > 134217728 then (some 134217728) else (some (wrap64 ((wrap64 (a1 + a2)) + t210)))) = some r := H
  have A5 := Aside0.mk A50
  clear A50
  by_cases c6 : (wrap64 ((wrap64 (a1 + a2)) + t210)) > 134217728
  ·rw [if_pos c6] at H
   have c6b0 : decide (134217728 < (wrap64 ((wrap64 (a1 + a2)) + t210))) = true := decide_eq_true c6
   clear c6
   obtain rfl := Option.some.inj H
   go_enter Tryz.func41, Tryz.ntmps41
   go_wp2_with (first | ((with_reducible refine gate_callee (f := 66) rfl ?_); refine goesL_ (some 18) rfl rfl Tryz.func66 (by kernel_rfl) rfl #[.int .i64 (wrap64 ((wrap64 (4 * a1)) * a2))] rfl (by (try simp only [List.map_toArray, List.map_cons, List.map_nil]); first | done | rfl | (simp only [List.length_drop, List.length_take]; rfl)) ?_; (with_reducible refine (antiquaryref05_Isqrt.calls k (wrap64 ((wrap64 (4 * a1)) * a2)) t210 _ A5.out).mono ?_); rintro e w' ⟨rfl, ⟨nd, rfl⟩⟩; refine ⟨_, rfl, ?_⟩))
   go_ret
   exact ⟨by first | rfl | (simp; done) | (simp [*]; done), by repeat (first | exact Drawn0.refl _ | apply Drawn0.step)⟩
  ·rw [if_neg c6] at H
   have c6b0 : decide (134217728 < (wrap64 ((wrap64 (a1 + a2)) + t210))) = false := decide_eq_false c6
   clear c6
   obtain rfl := Option.some.inj H
   go_enter Tryz.func41, Tryz.ntmps41
   go_wp2_with (first | ((with_reducible refine gate_callee (f := 66) rfl ?_); refine goesL_ (some 18) rfl rfl Tryz.func66 (by kernel_rfl) rfl #[.int .i64 (wrap64 ((wrap64 (4 * a1)) * a2))] rfl (by (try simp only [List.map_toArray, List.map_cons, List.map_nil]); first | done | rfl | (simp only [List.length_drop, List.length_take]; rfl)) ?_; (with_reducible refine (antiquaryref05_Isqrt.calls k (wrap64 ((wrap64 (4 * a1)) * a2)) t210 _ A5.out).mono ?_); rintro e w' ⟨rfl, ⟨nd, rfl⟩⟩; refine ⟨_, rfl, ?_⟩))
   go_ret
   exact ⟨by first | rfl | (simp; done) | (simp [*]; done), by repeat (first | exact Drawn0.refl _ | apply Drawn0.step)⟩
 ·rw [if_neg c4] at H
  have c4b0 : (a0 == 2) = false := beq_eq_false_iff_ne.mpr c4
  have c4b1 : (a0 != 2) = true := bne_iff_ne.mpr c4
  by_cases c7 : (wrap64 (a1 + a2)) > 134217728
  ·rw [if_pos c7] at H
   have c7b0 : decide (134217728 < (wrap64 (a1 + a2))) = true := decide_eq_true c7
   clear c7
   obtain rfl := Option.some.inj H
   go_enter Tryz.func41, Tryz.ntmps41
   go_wp2
   go_ret
   exact ⟨by first | rfl | (simp; done) | (simp [*]; done), by repeat (first | exact Drawn0.refl _ | apply Drawn0.step)⟩
  ·rw [if_neg c7] at H
   have c7b0 : decide (134217728 < (wrap64 (a1 + a2))) = false := decide_eq_false c7
   clear c7
   obtain rfl := Option.some.inj H
   go_enter Tryz.func41, Tryz.ntmps41
   go_wp2
   go_ret
   exact ⟨by first | rfl | (simp; done) | (simp [*]; done), by repeat (first | exact Drawn0.refl _ | apply Drawn0.step)⟩
def antiquaryref27_Covers.f (k : Nat) (a0 : Int) (a1 : Int) (a2 : Int) (a3 : Int) : Option (Bool) := (antiquaryref05_High.f k a0 a1 a2).bind fun t211 => (some (decide (t211 ≤ a3)))
theorem antiquaryref27_Covers.mono : ∀ a0 a1 a2 a3 k, LeO (antiquaryref27_Covers.f k a0 a1 a2 a3) (antiquaryref27_Covers.f (k + 1) a0 a1 a2 a3) := by
 intro a0 a1 a2 a3 k
 unfold antiquaryref27_Covers.f
 repeat' first
   | (with_reducible exact antiquaryref05_High.mono _ _ _ _)
   | (with_reducible exact LeO.refl _)
   | (with_reducible exact LeO.none _)
   | (with_reducible refine LeO.ite ?_ ?_)
   | (with_reducible refine LeO.bind ?_ (fun _ => ?_))
   | exact antiquaryref05_High.mono _ _ _ _
   | exact LeO.none _
   | refine LeO.ite ?_ ?_
   | refine LeO.bind ?_ (fun _ => ?_)
set_option maxHeartbeats 8000000 in
set_option maxRecDepth 100000 in
theorem antiquaryref27_Covers.calls (k : Nat) (a0 : Int) (a1 : Int) (a2 : Int) (a3 : Int) (r : Bool) (w : World) (h : antiquaryref27_Covers.f k a0 a1 a2 a3 = some r) :
  Calls Tryz.prog 18 #[.int .i64 a0, .int .i64 a1, .int .i64 a2, .int .i64 a3] w fun e w' => e = .returned (.bool r) ∧ Drawn0 w w' := by
 have H : ((antiquaryref05_High.f k a0 a1 a2).bind fun t211 => (some (decide (t211 ≤ a3)))) = some r := h
 clear h
 replace H := Option.bind_eq_some_iff.mp H
 obtain ⟨t211, A50, H⟩ := H
 replace H : (some (decide (t211 ≤ a3))) = some r := H
 have A5 := Aside0.mk A50
 clear A50
 obtain rfl := Option.some.inj H
 go_enter Tryz.func18, Tryz.ntmps18
 go_wp2_with (first | ((with_reducible refine gate_callee (f := 41) rfl ?_); refine goesL_ (some 12) rfl rfl Tryz.func41 (by kernel_rfl) rfl #[.int .i64 a0, .int .i64 a1, .int .i64 a2] rfl (by (try simp only [List.map_toArray, List.map_cons, List.map_nil]); first | done | rfl | (simp only [List.length_drop, List.length_take]; rfl)) ?_; (with_reducible refine (antiquaryref05_High.calls k a0 a1 a2 t211 _ A5.out).mono ?_); rintro e w' ⟨rfl, ⟨nd, rfl⟩⟩; refine ⟨_, rfl, ?_⟩))
 go_ret
 exact ⟨by first | rfl | (simp; done) | (simp [*]; done), by repeat (first | exact Drawn0.refl _ | apply Drawn0.step)⟩
open Go.Proofs.YthbkomkgciemiaaGreat.RF
open Go.RowKit
open Go.Sort (grow)
attribute [local go_sem] Oper.semAt_some
theorem put4 {w : World} {b t : Nat} {a0 a1 a2 a3 : Value} (h : w.heap[b]? = some (.cells #[a0, a1, a2, a3] t (0, 0))) (v0 v1 v2 v3 : Value) :
  ((((w.setCell ⟨b, 0, none⟩ v0).setCell ⟨b, 1, none⟩ v1).setCell ⟨b, 2, none⟩ v2).setCell ⟨b, 3, none⟩ v3).heap[b]? = some (.cells #[v0, v1, v2, v3] t (0, 0)) ∧ Below b w ((((w.setCell ⟨b, 0, none⟩ v0).setCell ⟨b, 1, none⟩ v1).setCell ⟨b, 2, none⟩ v2).setCell ⟨b, 3, none⟩ v3) :=
 ⟨blk_put (blk_put (blk_put (blk_put h 0 v0 rfl) 1 v1 rfl) 2 v2 rfl) 3 v3 rfl, ((((Below.refl b w).setCell (p := ⟨b, 0, none⟩) (Nat.le_refl b) _).setCell (p := ⟨b, 1, none⟩) (Nat.le_refl b) _).setCell (p := ⟨b, 2, none⟩) (Nat.le_refl b) _).setCell (p := ⟨b, 3, none⟩) (Nat.le_refl b) _⟩
set_option maxHeartbeats 2000000 in
set_option maxRecDepth 100000 in
theorem nearRefNo (m : Int) (A1 : Option Addr) (c1 : Nat) (l : List (List Int)) (A2 : Option Addr) (c2 : Nat) (g : List Hd) (A3 : Option Addr) (c3 : Nat) (v : List Int) (a k : Int) (w : World) (hr1 : Kd.C (Kd.slice 3 (Kd.int .i64)) w A1 l.length l) (hc1 : l.length ≤ c1) (hr2 : Kd.C k61 w A2 g.length g) (hc2 : g.length ≤ c2) (hr3 : Kd.C (Kd.int .i64) w A3 v.length v) (hc3 : v.length ≤ c3)
  (kW : Nat) (x : List Int) (y1 : Int) (y2 : Bool) (y3 : Int) (hW : antiquaryref27_Walk.f kW m l g v a = some (x, y1, y2, y3)) (hn : y3 ≠ 0 ∨ (y3 = 0 ∧ k < 1) ∨ (y3 = 0 ∧ 1 ≤ k ∧ 64 < k)) :
  Calls Tryz.prog 14 #[.int .i64 m, .slice A1 l.length c1, .agg #[.slice A2 g.length c2], .slice A3 v.length c3, .int .i64 a, .int .i64 k] w fun e w' => e = .returned (.agg #[.slice none 0 0, .int .i64 0, .bool false, .int .i64 1]) ∧ Below w.heap.size w w' := by
 have hu := Tryz.underlying25
 have hu2 := Tryz.underlying36
 have HW := Aside0.mk (fun W (hB : Below w.heap.size w W) => (callsIn_wide (n := 0)).2 (antiquaryref27_Walk.calls kW m A1 c1 l A2 c2 g A3 c3 v a x y1 y2 y3 W (Kd.C_below hr1 hB) hc1 (Kd.C_below hr2 hB) hc2 (Kd.C_below hr3 hB) hc3 hW))
 clear hr1 hr2 hr3 hW
 refine callsIn_wide (n := 0).1 ?_
 refine callsIn_of_wp Tryz.func14 rfl trivial ?_ rfl
 simp only [Tryz.ntmps14, List.size_toArray, List.length_cons, List.length_nil, Nat.reduceAdd, Nat.reduceSub, Array.replicate_succ, Array.replicate_zero, List.push_toArray, List.append_toArray, List.nil_append, List.cons_append]
 gi_wp2
 refine ⟨trivial, rfl, (HW.out _ (below_alloc (below_alloc (Below.refl _ w) _) _)).mono ?_⟩
 rintro e w1 ⟨v0, rfl, hR, hb⟩
 obtain ⟨A4, c4, rfl⟩ := Kd.R_slice hR
 have HX0 := Aside0.mk (blk_alloc (blk_below (blk_new (w.alloc (.cells #[.slice A2 g.length c2] 25)) (.cells #[.slice none 0 0, .int .i64 0, .bool false, .int .i64 0] 36)) hb) (.cells #[.slice A4 x.length c4, .int .i64 y1, .bool y2, .int .i64 y3] 36))
 have HX1 := Aside0.mk (blk_new w1 (.cells #[.slice A4 x.length c4, .int .i64 y1, .bool y2, .int .i64 y3] 36))
 have HB := Aside0.mk (below_alloc (below_step (below_alloc (below_alloc (Below.refl _ w) _) _) hb) (.cells #[.slice A4 x.length c4, .int .i64 y1, .bool y2, .int .i64 y3] 36))
 have hsz := hb.size
 simp only [World.size_alloc] at hsz
 clear hb hR HW
 gi_upto_region 2 with (fail)
 have x0 := HX0.out
 have x1 := HX1.out
 have x2 := HB.out
 clear HX0 HX1 HB
 generalize w1.alloc (.cells #[.slice A4 x.length c4, .int .i64 y1, .bool y2, .int .i64 y3] 36) = w2 at x0 x1 x2 ⊢
 have e3 : w2.cell? ⟨w1.heap.size, 3, none⟩ = some (.int .i64 y3) := by simp [World.cell?, x1]
 simp only [World.size_alloc] at x0
 have q0 : w2.cell? ⟨w.heap.size + 1, 0, none⟩ = some (.slice none 0 0) := by simp [World.cell?, x0]
 have q1 : w2.cell? ⟨w.heap.size + 1, 1, none⟩ = some (.int .i64 0) := by simp [World.cell?, x0]
 have q2 : w2.cell? ⟨w.heap.size + 1, 2, none⟩ = some (.bool false) := by simp [World.cell?, x0]
 have q3 : w2.cell? ⟨w.heap.size + 1, 3, none⟩ = some (.int .i64 0) := by simp [World.cell?, x0]
 have f0 := blk_frozen x0 0
 have f1 := blk_frozen x0 1
 have f2 := blk_frozen x0 2
 have f3 := blk_frozen x0 3
 have HX := Aside0.mk x0
 have HB := Aside0.mk x2
 clear x0 x1 x2
 rcases hn with h | ⟨rfl, h⟩ | ⟨rfl, h1, h2⟩
 ·have h' : (y3 != 0) = true := bne_iff_ne.mpr h
  gi_wp2
  obtain ⟨P1, P2⟩ := put4 HX.out (.slice none 0 0) (.int .i64 0) (.bool false) (.int .i64 1)
  refine bodyPost_ret (results_cell_row rfl _ _ (w.heap.size + 1) 36 #[.slice none 0 0, .int .i64 0, .bool false, .int .i64 1] (0, 0) _ rfl P1 Tryz.underlying36 rfl (by kernel_rfl)) rfl ?_
  exact ⟨rfl, HB.out.trans (P2.mono (by omega))⟩
 ·gi_wp2
  obtain ⟨P1, P2⟩ := put4 HX.out (.slice none 0 0) (.int .i64 0) (.bool false) (.int .i64 1)
  refine bodyPost_ret (results_cell_row rfl _ _ (w.heap.size + 1) 36 #[.slice none 0 0, .int .i64 0, .bool false, .int .i64 1] (0, 0) _ rfl P1 Tryz.underlying36 rfl (by kernel_rfl)) rfl ?_
  exact ⟨rfl, HB.out.trans (P2.mono (by omega))⟩
 ·have h1' : ¬ k < 1 := by omega
  gi_wp2
  obtain ⟨P1, P2⟩ := put4 HX.out (.slice none 0 0) (.int .i64 0) (.bool false) (.int .i64 1)
  refine bodyPost_ret (results_cell_row rfl _ _ (w.heap.size + 1) 36 #[.slice none 0 0, .int .i64 0, .bool false, .int .i64 1] (0, 0) _ rfl P1 Tryz.underlying36 rfl (by kernel_rfl)) rfl ?_
  exact ⟨rfl, HB.out.trans (P2.mono (by omega))⟩
set_option maxHeartbeats 4000000 in
set_option maxRecDepth 100000 in
theorem nearRefYes (m : Int) (A1 : Option Addr) (c1 : Nat) (l : List (List Int)) (A2 : Option Addr) (c2 : Nat) (g : List Hd) (A3 : Option Addr) (c3 : Nat) (v : List Int) (a k : Int) (w : World) (hr1 : Kd.C (Kd.slice 3 (Kd.int .i64)) w A1 l.length l) (hc1 : l.length ≤ c1) (hr2 : Kd.C k61 w A2 g.length g) (hc2 : g.length ≤ c2) (hr3 : Kd.C (Kd.int .i64) w A3 v.length v) (hc3 : v.length ≤ c3)
  (kW : Nat) (x : List Int) (y1 : Int) (y2 : Bool) (hW : antiquaryref27_Walk.f kW m l g v a = some (x, y1, y2, 0)) (hk0 : 1 ≤ k) (hk1 : k ≤ 64) (hx0 : 1 ≤ x.length) (hx1 : x.length ≤ 5000) (s : Int) (hs : rd x ((x.length : Int) - 1) = s) (hs0 : 0 ≤ s) (hs1 : s < (l.length : Int)) (hs2 : s < (g.length : Int))
  (kO : Nat) (o : List Int) (hO : antiquaryref27_Order.f kO m l v (rd_T61 g s).f1 = some o) (ho0 : 1 ≤ o.length) (ho1 : o.length ≤ 4096) (hl : l.length ≤ 4096) (hin : ∀ y ∈ o, 0 ≤ y ∧ y < (l.length : Int)) (b : Bool)
  (hc : k ≤ (o.length : Int) → ∃ k1 p1 k2 p2 k3 c, antiquaryref04_Key.f k1 m (rd_L1 l s) v = some p1 ∧ antiquaryref04_Key.f k2 m (rd_L1 l (rd o (k - 1))) v = some p2 ∧ antiquaryref27_Covers.f k3 m p1 p2 (rd_T61 g s).f0 = some c ∧ b = (((o.length : Int) == (l.length : Int)) || c)) (hc' : (o.length : Int) < k → b = ((o.length : Int) == (l.length : Int))) :
  Calls Tryz.prog 14 #[.int .i64 m, .slice A1 l.length c1, .agg #[.slice A2 g.length c2], .slice A3 v.length c3, .int .i64 a, .int .i64 k] w fun e w' => ∃ v0 : Value, e = .returned (.agg #[v0, .int .i64 s, .bool b, .int .i64 0]) ∧ Kd.R (Kd.int .i64) 3 w' w.heap.size (fun _ => True) v0 (o.take (mn k o.length).toNat) ∧ Below w.heap.size w w' := by
 have hu := Tryz.underlying25
 have hu2 := Tryz.underlying36
 have hu3 := Tryz.underlying61
 have HW := Aside0.mk (fun W (hB : Below w.heap.size w W) => (callsIn_wide (n := 0)).2 (antiquaryref27_Walk.calls kW m A1 c1 l A2 c2 g A3 c3 v a x y1 y2 0 W (Kd.C_below hr1 hB) hc1 (Kd.C_below hr2 hB) hc2 (Kd.C_below hr3 hB) hc3 hW))
 have HL := Aside0.mk hr1
 have HG := Aside0.mk hr2
 have HV := Aside0.mk hr3
 clear hr1 hr2 hr3 hW
 refine callsIn_wide (n := 0).1 ?_
 refine callsIn_of_wp Tryz.func14 rfl trivial ?_ rfl
 simp only [Tryz.ntmps14, List.size_toArray, List.length_cons, List.length_nil, Nat.reduceAdd, Nat.reduceSub, Array.replicate_succ, Array.replicate_zero, List.push_toArray, List.append_toArray, List.nil_append, List.cons_append]
 gi_wp2
 refine ⟨trivial, rfl, (HW.out _ (below_alloc (below_alloc (Below.refl _ w) _) _)).mono ?_⟩
 rintro e w1 ⟨v0, rfl, hR, hb⟩
 obtain ⟨A4, c4, rfl⟩ := Kd.R_slice hR
 have HX0 := Aside0.mk (blk_alloc (blk_below (blk_new (w.alloc (.cells #[.slice A2 g.length c2] 25)) (.cells #[.slice none 0 0, .int .i64 0, .bool false, .int .i64 0] 36)) hb) (.cells #[.slice A4 x.length c4, .int .i64 y1, .bool y2, .int .i64 0] 36))
 have HXG := Aside0.mk (blk_alloc (blk_below (blk_alloc (blk_new w (.cells #[.slice A2 g.length c2] 25)) (.cells #[.slice none 0 0, .int .i64 0, .bool false, .int .i64 0] 36)) hb) (.cells #[.slice A4 x.length c4, .int .i64 y1, .bool y2, .int .i64 0] 36))
 have HX1 := Aside0.mk (blk_new w1 (.cells #[.slice A4 x.length c4, .int .i64 y1, .bool y2, .int .i64 0] 36))
 have HB := Aside0.mk (below_alloc (below_step (below_alloc (below_alloc (Below.refl _ w) _) _) hb) (.cells #[.slice A4 x.length c4, .int .i64 y1, .bool y2, .int .i64 0] 36))
 have HC4 := Aside0.mk (Kd.C_alloc (Kd.R_reads' hR).2.2 (.cells #[.slice A4 x.length c4, .int .i64 y1, .bool y2, .int .i64 0] 36))
 have hsz := hb.size
 simp only [World.size_alloc] at hsz
 clear hb hR HW
 gi_upto_region 2 with (fail)
 have x0 := HX0.out
 have x1 := HX1.out
 have x2 := HB.out
 have x3 := HC4.out
 have xg := HXG.out
 clear HX0 HX1 HB HC4 HXG
 generalize w1.alloc (.cells #[.slice A4 x.length c4, .int .i64 y1, .bool y2, .int .i64 0] 36) = w2 at x0 x1 x2 x3 xg ⊢
 have e3 : w2.cell? ⟨w1.heap.size, 3, none⟩ = some (.int .i64 0) := by simp [World.cell?, x1]
 have e0 : w2.cell? ⟨w1.heap.size, 0, none⟩ = some (.slice A4 x.length c4) := by simp [World.cell?, x1]
 have eg : w2.cell? ⟨w.heap.size, 0, none⟩ = some (.slice A2 g.length c2) := by simp [World.cell?, xg]
 simp only [World.size_alloc] at x0
 have hk0' : ¬ k < 1 := by omega
 have hk1' : ¬ 64 < k := by omega
 obtain ⟨j, hj⟩ : ∃ j, j = (x.length : Int) - 1 := ⟨_, rfl⟩
 have hjw : IntKind.i64.wrap ((x.length : Int) - 1) = j := by rw [hj]; exact IntWalk.i64_in _ (by omega)
 have hj0 : 0 ≤ j := by omega
 have hj1 : j < (x.length : Int) := by omega
 obtain ⟨ad4, rfl, r4⟩ := Kd.at_int x3 j hj0 hj1
 rw [hj, hs, ← hj] at r4
 obtain ⟨ad2, A5, c5, rfl, g0, g1, hl5, hC5⟩ := at_T61 (Kd.C_below HG.out x2) s hs0 hs2
 have HX := Aside0.mk x0
 have HB := Aside0.mk x2
 have HC5 := Aside0.mk hC5
 have HJ := Aside0.mk hj
 clear x0 x1 x2 x3 xg hC5 hj
 gi_upto_region 6 with (fail)
 have hbm := below_alloc (Below.refl w2.heap.size w2) (.cells #[.int .i64 (rd_T61 g s).f0, .slice A5 (rd_T61 g s).f1.length c5] 61)
 have hnm := blk_new w2 (.cells #[.int .i64 (rd_T61 g s).f0, .slice A5 (rd_T61 g s).f1.length c5] 61)
 have hs2 := hbm.size
 generalize (w2.alloc (.cells #[.int .i64 (rd_T61 g s).f0, .slice A5 (rd_T61 g s).f1.length c5] 61)) = w3 at hbm hnm hs2 ⊢
 have u1 : w3.cell? ⟨w2.heap.size, 1, none⟩ = some (.slice A5 (rd_T61 g s).f1.length c5) := by simp [World.cell?, hnm]
 have HB3 := Aside0.mk (below_step HB.out hbm)
 have HX3 := Aside0.mk (blk_below HX.out hbm)
 have HO := Aside0.mk ((callsIn_wide (n := 0)).2 (antiquaryref27_Order.calls kO m A1 c1 l A3 c3 v A5 c5 (rd_T61 g s).f1 o w3 (Kd.C_below HL.out HB3.out) hc1 (Kd.C_below HV.out HB3.out) hc3 (Kd.C_below HC5.out hbm) hl5 hO))
 have HN3 := Aside0.mk hnm
 have hsz3 := HB3.out.size
 clear hbm hnm g0 g1 e0 e3 eg r4 HC5 HB HX hO
 gi_wp2
 refine ⟨trivial, rfl, HO.out.mono ?_⟩
 rintro e w4 ⟨v6, rfl, hR, hb⟩
 obtain ⟨A6, c6, rfl⟩ := Kd.R_slice hR
 have hc6 := (Kd.R_reads' hR).2.1
 obtain ⟨ad6, rfl, _⟩ := Kd.at_int (Kd.R_reads' hR).2.2 0 (by omega) (by omega)
 have HN4 := Aside0.mk (blk_below HN3.out hb)
 have HX4 := Aside0.mk (blk_below HX3.out hb)
 have HB4 := Aside0.mk (below_step HB3.out hb)
 have HR4 := Aside0.mk hR
 have hs4 := hb.size
 have hsz4 : w.heap.size + 1 < w4.heap.size := by have := blk_lt HX4.out; simpa using this
 clear hb hR HN3 HX3 HB3 HO u1
 have hmn0 : 0 ≤ mn k (o.length : Int) := by unfold mn; split <;> omega
 have hmn1 : mn k (o.length : Int) ≤ (o.length : Int) := by unfold mn; split <;> omega
 have hmn2 : mn k (o.length : Int) ≤ (c6 : Int) := by omega
 gi_upto_region 8 with (fail)
 obtain ⟨n8, hn8⟩ : ∃ n8, n8 = (if (o.length : Int) < k then (o.length : Int) else k).toNat := ⟨_, rfl⟩
 have hn9 : (mn k (o.length : Int)).toNat = n8 := by rw [hn8]; rfl
 have hn10 : n8 ≤ o.length := by omega
 rw [← hn8]
 have hbm := below_alloc (Below.refl w4.heap.size w4) (.cells #[.slice (some ad6) n8 c6, .int .i64 s, .bool ((o.length : Int) == (l.length : Int)), .int .i64 0] 36)
 have hnm := blk_new w4 (.cells #[.slice (some ad6) n8 c6, .int .i64 s, .bool ((o.length : Int) == (l.length : Int)), .int .i64 0] 36)
 have hs5 := hbm.size
 generalize (w4.alloc (.cells #[.slice (some ad6) n8 c6, .int .i64 s, .bool ((o.length : Int) == (l.length : Int)), .int .i64 0] 36)) = w5 at hbm hnm hs5 ⊢
 have HM5 := Aside0.mk hnm
 have HN5 := Aside0.mk (blk_below HN4.out hbm)
 have HX5 := Aside0.mk (blk_below HX4.out hbm)
 have HB5 := Aside0.mk (below_step HB4.out hbm)
 have HR5 := Aside0.mk (Kd.R_lower (Kd.R_take (Kd.R_below HR4.out hbm) hn10) hsz3)
 have HC5 := Aside0.mk (Kd.C_below (Kd.R_reads' HR4.out).2.2 hbm)
 clear hbm hnm HN4 HX4 HB4 HR4 hn8 hmn0 hmn1 hmn2
 by_cases hko : k ≤ (o.length : Int)
 ·obtain ⟨k1, p1, k2, p2, k3, c, q1, q2, q3, rfl⟩ := hc hko
  clear hc hc'
  have hko' : (o.length : Int) ≥ k := hko
  obtain ⟨q, hq⟩ : ∃ q, q = k - 1 := ⟨_, rfl⟩
  have hkw : IntKind.i64.wrap (k - 1) = q := by rw [hq]; exact IntWalk.i64_in _ (by omega)
  have hk2 : 0 ≤ q := by omega
  have hk3 : q < (o.length : Int) := by omega
  obtain ⟨ad7, hA7, r7⟩ := Kd.at_int HC5.out q hk2 hk3
  cases hA7
  obtain ⟨z0, z1⟩ := hin _ (rd_mem (l := o) hk2 hk3)
  obtain ⟨z, hz⟩ : ∃ z, z = rd o q := ⟨_, rfl⟩
  rw [← hq] at q2
  rw [← hz] at r7 z0 z1 q2
  have HQ := Aside0.mk hq
  clear hq
  obtain ⟨adA, Aa, ca, hAa, ra, hla, hCa⟩ := at_L1 (Kd.C_below HL.out HB5.out) s hs0 hs1
  obtain ⟨adB, Ab, cb, hAb, rb, hlb, hCb⟩ := at_L1 (Kd.C_below HL.out HB5.out) z z0 z1
  subst hAa
  cases hAb
  have rf : w5.cell? ⟨w2.heap.size, 0, none⟩ = some (.int .i64 (rd_T61 g s).f0) := by simp [World.cell?, HN5.out]
  have e7 := cell_regrown r7
  have ea := cell_regrown ra
  have eb := cell_regrown rb
  have ef := cell_regrown rf
  have cA := fun d os => CallsIn.regrown_of (d := d) (os := os) (w := w5) ((callsIn_wide (n := 0)).2 (antiquaryref04_Key.calls k1 m Aa ca (rd_L1 l s) A3 c3 v p1 (grow (redrawn w5 d) os) (Kd.C_below hCa (below_regrown w5 d os)) hla (Kd.C_below HV.out (below_step HB5.out (below_regrown w5 d os))) hc3 q1))
  have cB := fun d os => CallsIn.regrown_of (d := d) (os := os) (w := w5) ((callsIn_wide (n := 0)).2 (antiquaryref04_Key.calls k2 m Ab cb (rd_L1 l z) A3 c3 v p2 (grow (redrawn w5 d) os) (Kd.C_below hCb (below_regrown w5 d os)) hlb (Kd.C_below HV.out (below_step HB5.out (below_regrown w5 d os))) hc3 q2))
  have cC := fun d os => CallsIn.regrown_of (d := d) (os := os) (w := w5) ((callsIn_wide (n := 0)).2 ((antiquaryref27_Covers.calls k3 m p1 p2 (rd_T61 g s).f0 c (grow (redrawn w5 d) os) q3).mono fun _ _ ⟨he, hd⟩ => ⟨he, hd.below⟩))
  clear r7 ra rb rf q1 q2 q3 hz hCa hCb
  refine region_quiet_below (by kernel_rfl) (by kernel_rfl) (by kernel_rfl) ?_
  repeat (refine wpQuietIn_step (fun _ _ _ _ => trivial) (fun K hK => ?_); go_simp; first | (refine hK _ ?_; clear hK K) | (apply Exists.intro; refine ⟨fun _ => ?_, hK _ ?_⟩; (refine ⟨rfl, ?_⟩; first | (with_reducible exact cA _ _) | (with_reducible exact cB _ _) | (with_reducible exact cC _ _)); clear hK K))
  refine wpQuietIn_nil ?_
  intro _ hw'
  obtain ⟨⟨dq, osq⟩, hw''⟩ := hw'
  subst hw''
  clear e7 ea eb ef cA cB cC
  have hb6 := below_regrown w5 dq osq
  generalize grow (redrawn w5 dq) osq = w6 at hb6 ⊢
  have HM6 := Aside0.mk (blk_below HM5.out hb6)
  have HX6 := Aside0.mk (blk_below HX5.out hb6)
  have HB6 := Aside0.mk (below_step HB5.out hb6)
  have HR6 := Aside0.mk (Kd.R_below HR5.out hb6)
  clear hb6
  cases c with
  | false =>
   have hbb : (((o.length : Int) == (l.length : Int)) || false) = ((o.length : Int) == (l.length : Int)) := Bool.or_false _
   gi_upto_region 10 with (fail)
   have hx6 := HX6.out
   try simp only [World.size_alloc] at hx6
   have r0 : w6.cell? ⟨w4.heap.size, 0, none⟩ = some (.slice (some ad6) n8 c6) := by simp [World.cell?, HM6.out]
   have r1 : w6.cell? ⟨w4.heap.size, 1, none⟩ = some (.int .i64 s) := by simp [World.cell?, HM6.out]
   have r2 : w6.cell? ⟨w4.heap.size, 2, none⟩ = some (.bool ((o.length : Int) == (l.length : Int))) := by simp [World.cell?, HM6.out]
   have r3 : w6.cell? ⟨w4.heap.size, 3, none⟩ = some (.int .i64 0) := by simp [World.cell?, HM6.out]
   have q0 : w6.cell? ⟨w.heap.size + 1, 0, none⟩ = some (.slice none 0 0) := by simp [World.cell?, hx6]
   have q1 : w6.cell? ⟨w.heap.size + 1, 1, none⟩ = some (.int .i64 0) := by simp [World.cell?, hx6]
   have q2 : w6.cell? ⟨w.heap.size + 1, 2, none⟩ = some (.bool false) := by simp [World.cell?, hx6]
   have q3 : w6.cell? ⟨w.heap.size + 1, 3, none⟩ = some (.int .i64 0) := by simp [World.cell?, hx6]
   have f0 := blk_frozen hx6 0
   have f1 := blk_frozen hx6 1
   have f2 := blk_frozen hx6 2
   have f3 := blk_frozen hx6 3
   have HX8 := Aside0.mk hx6
   clear hx6
   gi_wp2
   obtain ⟨P1, P2⟩ := put4 HX8.out (.slice (some ad6) n8 c6) (.int .i64 s) (.bool ((o.length : Int) == (l.length : Int))) (.int .i64 0)
   refine bodyPost_ret (results_cell_row rfl _ _ (w.heap.size + 1) 36 #[.slice (some ad6) n8 c6, .int .i64 s, .bool ((o.length : Int) == (l.length : Int)), .int .i64 0] (0, 0) _ rfl P1 Tryz.underlying36 rfl (by kernel_rfl)) rfl ?_
   refine ⟨_, by first | rfl | rw [hbb], ?_, HB6.out.trans (P2.mono (by omega))⟩
   try rw [hn9]
   exact Kd.R_far (Kd.R_far (Kd.R_far (Kd.R_far (Kd.R_types HR6.out HX8.out (by decide)) (fun _ hk => hk.2) _) (fun _ hk => hk.2) _) (fun _ hk => hk.2) _) (fun _ hk => hk.2) _ |> fun h => Kd.R_mono h (fun _ _ => trivial)
  | true =>
   have hbb : (((o.length : Int) == (l.length : Int)) || true) = true := Bool.or_true _
   have g2 := blk_frozen HM6.out 2
   have g3 : w6.cell? ⟨w4.heap.size, 2, none⟩ = some (.bool ((o.length : Int) == (l.length : Int))) := by simp [World.cell?, HM6.out]
   gi_upto_region 10 with (fail)
   have HM7 := Aside0.mk (blk_put HM6.out 2 (.bool true) rfl)
   have HX7 := Aside0.mk (blk_far HX6.out (p := ⟨w4.heap.size, 2, none⟩) (Nat.ne_of_lt hsz4) (.bool true))
   have HB7 := Aside0.mk (below_set (g := w4.heap.size) (j := 2) (v := .bool true) HB6.out (Nat.le_of_lt (Nat.lt_of_succ_lt hsz4)))
   have HR7 := Aside0.mk (Kd.R_mono (ok' := fun _ => True) (Kd.R_far (p := ⟨w4.heap.size, 2, none⟩) (Kd.R_types HR6.out HM6.out (by decide)) (fun _ hk => hk.2) (.bool true)) (fun _ _ => trivial))
   clear HM6 HX6 HB6 HR6 g2 g3
   generalize w6.setCell ⟨w4.heap.size, 2, none⟩ (.bool true) = w7 at HM7 HX7 HB7 HR7 ⊢
   have hx7 := HX7.out
   try simp only [World.size_alloc] at hx7
   have r0 : w7.cell? ⟨w4.heap.size, 0, none⟩ = some (.slice (some ad6) n8 c6) := by simp [World.cell?, HM7.out]
   have r1 : w7.cell? ⟨w4.heap.size, 1, none⟩ = some (.int .i64 s) := by simp [World.cell?, HM7.out]
   have r2 : w7.cell? ⟨w4.heap.size, 2, none⟩ = some (.bool true) := by simp [World.cell?, HM7.out]
   have r3 : w7.cell? ⟨w4.heap.size, 3, none⟩ = some (.int .i64 0) := by simp [World.cell?, HM7.out]
   have q0 : w7.cell? ⟨w.heap.size + 1, 0, none⟩ = some (.slice none 0 0) := by simp [World.cell?, hx7]
   have q1 : w7.cell? ⟨w.heap.size + 1, 1, none⟩ = some (.int .i64 0) := by simp [World.cell?, hx7]
   have q2 : w7.cell? ⟨w.heap.size + 1, 2, none⟩ = some (.bool false) := by simp [World.cell?, hx7]
   have q3 : w7.cell? ⟨w.heap.size + 1, 3, none⟩ = some (.int .i64 0) := by simp [World.cell?, hx7]
   have f0 := blk_frozen hx7 0
   have f1 := blk_frozen hx7 1
   have f2 := blk_frozen hx7 2
   have f3 := blk_frozen hx7 3
   have HX8 := Aside0.mk hx7
   clear hx7
   gi_wp2
   obtain ⟨P1, P2⟩ := put4 HX8.out (.slice (some ad6) n8 c6) (.int .i64 s) (.bool true) (.int .i64 0)
   refine bodyPost_ret (results_cell_row rfl _ _ (w.heap.size + 1) 36 #[.slice (some ad6) n8 c6, .int .i64 s, .bool true, .int .i64 0] (0, 0) _ rfl P1 Tryz.underlying36 rfl (by kernel_rfl)) rfl ?_
   refine ⟨_, by first | rfl | rw [hbb], ?_, HB7.out.trans (P2.mono (by omega))⟩
   try rw [hn9]
   exact Kd.R_far (Kd.R_far (Kd.R_far (Kd.R_far (Kd.R_types HR7.out HX8.out (by decide)) (fun _ hk => hk.2) _) (fun _ hk => hk.2) _) (fun _ hk => hk.2) _) (fun _ hk => hk.2) _ |> fun h => Kd.R_mono h (fun _ _ => trivial)
 ·have hb := hc' (by omega)
  subst hb
  clear hc hc'
  have hko' : ¬ (o.length : Int) ≥ k := hko
  refine region_quiet_below (by kernel_rfl) (by kernel_rfl) (by kernel_rfl) ?_
  repeat (refine wpQuietIn_step (fun _ _ _ _ => trivial) (fun K hK => ?_); go_simp; first | (refine hK _ ?_; clear hK K))
  refine wpQuietIn_nil ?_
  intro _ hw'
  obtain ⟨⟨dq, osq⟩, hw''⟩ := hw'
  subst hw''
  have hb6 := below_regrown w5 dq osq
  generalize grow (redrawn w5 dq) osq = w6 at hb6 ⊢
  have HM6 := Aside0.mk (blk_below HM5.out hb6)
  have HX6 := Aside0.mk (blk_below HX5.out hb6)
  have HB6 := Aside0.mk (below_step HB5.out hb6)
  have HR6 := Aside0.mk (Kd.R_below HR5.out hb6)
  clear hb6
  gi_upto_region 10 with (fail)
  have hx6 := HX6.out
  try simp only [World.size_alloc] at hx6
  have r0 : w6.cell? ⟨w4.heap.size, 0, none⟩ = some (.slice (some ad6) n8 c6) := by simp [World.cell?, HM6.out]
  have r1 : w6.cell? ⟨w4.heap.size, 1, none⟩ = some (.int .i64 s) := by simp [World.cell?, HM6.out]
  have r2 : w6.cell? ⟨w4.heap.size, 2, none⟩ = some (.bool ((o.length : Int) == (l.length : Int))) := by simp [World.cell?, HM6.out]
  have r3 : w6.cell? ⟨w4.heap.size, 3, none⟩ = some (.int .i64 0) := by simp [World.cell?, HM6.out]
  have q0 : w6.cell? ⟨w.heap.size + 1, 0, none⟩ = some (.slice none 0 0) := by simp [World.cell?, hx6]
  have q1 : w6.cell? ⟨w.heap.size + 1, 1, none⟩ = some (.int .i64 0) := by simp [World.cell?, hx6]
  have q2 : w6.cell? ⟨w.heap.size + 1, 2, none⟩ = some (.bool false) := by simp [World.cell?, hx6]
  have q3 : w6.cell? ⟨w.heap.size + 1, 3, none⟩ = some (.int .i64 0) := by simp [World.cell?, hx6]
  have f0 := blk_frozen hx6 0
  have f1 := blk_frozen hx6 1
  have f2 := blk_frozen hx6 2
  have f3 := blk_frozen hx6 3
  have HX8 := Aside0.mk hx6
  clear hx6
  gi_wp2
  obtain ⟨P1, P2⟩ := put4 HX8.out (.slice (some ad6) n8 c6) (.int .i64 s) (.bool ((o.length : Int) == (l.length : Int))) (.int .i64 0)
  refine bodyPost_ret (results_cell_row rfl _ _ (w.heap.size + 1) 36 #[.slice (some ad6) n8 c6, .int .i64 s, .bool ((o.length : Int) == (l.length : Int)), .int .i64 0] (0, 0) _ rfl P1 Tryz.underlying36 rfl (by kernel_rfl)) rfl ?_
  refine ⟨_, by first | rfl | rw [hbb], ?_, HB6.out.trans (P2.mono (by omega))⟩
  try rw [hn9]
  exact Kd.R_far (Kd.R_far (Kd.R_far (Kd.R_far (Kd.R_types HR6.out HX8.out (by decide)) (fun _ hk => hk.2) _) (fun _ hk => hk.2) _) (fun _ hk => hk.2) _) (fun _ hk => hk.2) _ |> fun h => Kd.R_mono h (fun _ _ => trivial)
end Go.Proofs.YthbkomkgciemiaaGreat.PKF
