/- Texts of this claim, merged: part 7. -/
import Derived.Test.YthbkomkgciemiaaCW3
import Derived.Test.YthbkomkgciemiaaCW5
import Derived.Test.YthbkomkgciemiaaCW6
-- by hp.py over the kit's print (stubs proved by hand)
namespace Go.Proofs.Ythbkomkgciemiaa.PKM
open Go.RowKit Go.Proofs.YthbkomkgciemiaaW.PrintWords Go.Proofs.YthbkomkgciemiaaW.PrintLast Go.Proofs.YthbkomkgciemiaaW.PrintMore
attribute [local go_sem] max2_int min2_int max_two min_two max_three min_three max_four min_four   -- for this text's walks alone
set_option linter.unusedVariables false
set_option linter.unusedSimpArgs false

-- STAGE 0 antiquaryref27_Valid
/-! ### antiquaryref27_Valid: function 20 -/
mutual
def antiquaryref27_Valid.j0 : Nat → Int → Bool → List (S39) → Option (Bool)
  | 0, _, _, _ => none
  | k + 1, x0, x20, x139000 => if x20 = true then (some false) else (antiquaryref27_Valid.l0 k x0 0 x139000)
def antiquaryref27_Valid.l0 : Nat → Int → Int → List (S39) → Option (Bool)
  | 0, _, _, _ => none
  | k + 1, x0, x5, x139000 => if x5 < x0 then (if 0 ≤ x5 then (if x5 < (x139000.length : Int) then (if ((rd_T39 x139000 x5).f0) < 0 then (antiquaryref27_Valid.j2 k x0 x5 true x139000 ((rd_T39 x139000 x5).f0) ((rd_T39 x139000 x5).f1)) else (if ((rd_T39 x139000 x5).f0) > 134217728 then (antiquaryref27_Valid.j2 k x0 x5 true x139000 ((rd_T39 x139000 x5).f0) ((rd_T39 x139000 x5).f1)) else ((antiquaryref27_has.f k ((rd_T39 x139000 x5).f1) x5).bind fun t141 => (antiquaryref27_Valid.j2 k x0 x5 (!t141) x139000 ((rd_T39 x139000 x5).f0) ((rd_T39 x139000 x5).f1))))) else (none)) else (none)) else (some true)
def antiquaryref27_Valid.j2 : Nat → Int → Int → Bool → List (S39) → Int → List Int → Option (Bool)
  | 0, _, _, _, _, _, _ => none
  | k + 1, x0, x5, x45, x139000, x141000, x141001 => if x45 = true then (some false) else (antiquaryref27_Valid.l1 k x0 x5 0 x139000 x141000 x141001)
def antiquaryref27_Valid.l1 : Nat → Int → Int → Int → List (S39) → Int → List Int → Option (Bool)
  | 0, _, _, _, _, _, _ => none
  | k + 1, x0, x5, x7, x139000, x141000, x141001 => if x7 < (x141001.length : Int) then (if 0 ≤ x7 then (if (rd x141001 x7) < 0 then (some false) else (if (rd x141001 x7) ≥ x0 then (some false) else (if x7 > 0 then (if 0 ≤ (wrap64 (x7 - 1)) then (if (wrap64 (x7 - 1)) < (x141001.length : Int) then (if (rd x141001 x7) ≤ (rd x141001 (wrap64 (x7 - 1))) then (some false) else (antiquaryref27_Valid.l1 k x0 x5 (wrap64 (x7 + 1)) x139000 x141000 x141001)) else (none)) else (none)) else (antiquaryref27_Valid.l1 k x0 x5 (wrap64 (x7 + 1)) x139000 x141000 x141001)))) else (none)) else (antiquaryref27_Valid.l0 k x0 (wrap64 (x5 + 1)) x139000)
end
def antiquaryref27_Valid.f (k : Nat) (a0 : Int) (l1_0 : List (S39)) : Option (Bool) := if a0 < 1 then (antiquaryref27_Valid.j0 k a0 true l1_0) else (if a0 > 4096 then (antiquaryref27_Valid.j0 k a0 true l1_0) else (antiquaryref27_Valid.j0 k a0 ((l1_0.length : Int) != a0) l1_0))
theorem antiquaryref27_Valid.mono_l : ∀ k, (∀ y0 y1 y2, LeO (antiquaryref27_Valid.j0 k y0 y1 y2) (antiquaryref27_Valid.j0 (k + 1) y0 y1 y2)) ∧ (∀ y0 y1 y2, LeO (antiquaryref27_Valid.l0 k y0 y1 y2) (antiquaryref27_Valid.l0 (k + 1) y0 y1 y2)) ∧ (∀ y0 y1 y2 y3 y4 y5, LeO (antiquaryref27_Valid.j2 k y0 y1 y2 y3 y4 y5) (antiquaryref27_Valid.j2 (k + 1) y0 y1 y2 y3 y4 y5)) ∧ (∀ y0 y1 y2 y3 y4 y5, LeO (antiquaryref27_Valid.l1 k y0 y1 y2 y3 y4 y5) (antiquaryref27_Valid.l1 (k + 1) y0 y1 y2 y3 y4 y5))
  | 0 => ⟨fun _ _ _ r h => by simp [antiquaryref27_Valid.j0] at h, fun _ _ _ r h => by simp [antiquaryref27_Valid.l0] at h, fun _ _ _ _ _ _ r h => by simp [antiquaryref27_Valid.j2] at h, fun _ _ _ _ _ _ r h => by simp [antiquaryref27_Valid.l1] at h⟩
  | k + 1 => by
    obtain ⟨ih0, ih1, ih2, ih3⟩ := antiquaryref27_Valid.mono_l k
    refine ⟨?_, ?_, ?_, ?_⟩
    · intro y0 y1 y2
      unfold antiquaryref27_Valid.j0
      repeat' first
      | (with_reducible exact ih0 _ _ _)
      | (with_reducible exact ih1 _ _ _)
      | (with_reducible exact ih2 _ _ _ _ _ _)
      | (with_reducible exact ih3 _ _ _ _ _ _)
      | (with_reducible exact antiquaryref27_has.mono _ _ _)
      | (with_reducible exact LeO.refl _)
      | (with_reducible exact LeO.none _)
      | (with_reducible refine LeO.ite ?_ ?_)
      | (with_reducible refine LeO.bind ?_ (fun _ => ?_))
      | exact ih0 _ _ _
      | exact ih1 _ _ _
      | exact ih2 _ _ _ _ _ _
      | exact ih3 _ _ _ _ _ _
      | exact antiquaryref27_has.mono _ _ _
      | exact LeO.none _
      | refine LeO.ite ?_ ?_
      | refine LeO.bind ?_ (fun _ => ?_)
    · intro y0 y1 y2
      unfold antiquaryref27_Valid.l0
      repeat' first
      | (with_reducible exact ih0 _ _ _)
      | (with_reducible exact ih1 _ _ _)
      | (with_reducible exact ih2 _ _ _ _ _ _)
      | (with_reducible exact ih3 _ _ _ _ _ _)
      | (with_reducible exact antiquaryref27_has.mono _ _ _)
      | (with_reducible exact LeO.refl _)
      | (with_reducible exact LeO.none _)
      | (with_reducible refine LeO.ite ?_ ?_)
      | (with_reducible refine LeO.bind ?_ (fun _ => ?_))
      | exact ih0 _ _ _
      | exact ih1 _ _ _
      | exact ih2 _ _ _ _ _ _
      | exact ih3 _ _ _ _ _ _
      | exact antiquaryref27_has.mono _ _ _
      | exact LeO.none _
      | refine LeO.ite ?_ ?_
      | refine LeO.bind ?_ (fun _ => ?_)
    · intro y0 y1 y2 y3 y4 y5
      unfold antiquaryref27_Valid.j2
      repeat' first
      | (with_reducible exact ih0 _ _ _)
      | (with_reducible exact ih1 _ _ _)
      | (with_reducible exact ih2 _ _ _ _ _ _)
      | (with_reducible exact ih3 _ _ _ _ _ _)
      | (with_reducible exact antiquaryref27_has.mono _ _ _)
      | (with_reducible exact LeO.refl _)
      | (with_reducible exact LeO.none _)
      | (with_reducible refine LeO.ite ?_ ?_)
      | (with_reducible refine LeO.bind ?_ (fun _ => ?_))
      | exact ih0 _ _ _
      | exact ih1 _ _ _
      | exact ih2 _ _ _ _ _ _
      | exact ih3 _ _ _ _ _ _
      | exact antiquaryref27_has.mono _ _ _
      | exact LeO.none _
      | refine LeO.ite ?_ ?_
      | refine LeO.bind ?_ (fun _ => ?_)
    · intro y0 y1 y2 y3 y4 y5
      unfold antiquaryref27_Valid.l1
      repeat' first
      | (with_reducible exact ih0 _ _ _)
      | (with_reducible exact ih1 _ _ _)
      | (with_reducible exact ih2 _ _ _ _ _ _)
      | (with_reducible exact ih3 _ _ _ _ _ _)
      | (with_reducible exact antiquaryref27_has.mono _ _ _)
      | (with_reducible exact LeO.refl _)
      | (with_reducible exact LeO.none _)
      | (with_reducible refine LeO.ite ?_ ?_)
      | (with_reducible refine LeO.bind ?_ (fun _ => ?_))
      | exact ih0 _ _ _
      | exact ih1 _ _ _
      | exact ih2 _ _ _ _ _ _
      | exact ih3 _ _ _ _ _ _
      | exact antiquaryref27_has.mono _ _ _
      | exact LeO.none _
      | refine LeO.ite ?_ ?_
      | refine LeO.bind ?_ (fun _ => ?_)
theorem antiquaryref27_Valid.mono : ∀ a0 a1 k, LeO (antiquaryref27_Valid.f k a0 a1) (antiquaryref27_Valid.f (k + 1) a0 a1) := by
  intro a0 a1 k
  obtain ⟨ih0, ih1, ih2, ih3⟩ := antiquaryref27_Valid.mono_l k
  unfold antiquaryref27_Valid.f
  repeat' first
      | (with_reducible exact ih0 _ _ _)
      | (with_reducible exact ih1 _ _ _)
      | (with_reducible exact ih2 _ _ _ _ _ _)
      | (with_reducible exact ih3 _ _ _ _ _ _)
      | (with_reducible exact antiquaryref27_has.mono _ _ _)
      | (with_reducible exact LeO.refl _)
      | (with_reducible exact LeO.none _)
      | (with_reducible refine LeO.ite ?_ ?_)
      | (with_reducible refine LeO.bind ?_ (fun _ => ?_))
      | exact ih0 _ _ _
      | exact ih1 _ _ _
      | exact ih2 _ _ _ _ _ _
      | exact ih3 _ _ _ _ _ _
      | exact antiquaryref27_has.mono _ _ _
      | exact LeO.none _
      | refine LeO.ite ?_ ?_
      | refine LeO.bind ?_ (fun _ => ?_)
set_option maxHeartbeats 8000000 in
set_option maxRecDepth 100000 in
theorem antiquaryref27_Valid.calls (k : Nat) (a0 : Int) (A1_0 : Option Addr) (c1_0 : Nat) (l1_0 : List (S39)) (r : Bool) (w : World) (hr1_0 : Kd.C k39 w A1_0 l1_0.length l1_0) (hc1_0 : l1_0.length ≤ c1_0) (h : antiquaryref27_Valid.f k a0 l1_0 = some r) :
    Calls Try.prog 20 #[.int .i64 a0, .agg #[.slice A1_0 l1_0.length c1_0]] w fun e w' => e = .returned (.bool r) ∧ Below w.heap.size w w' := by
  have hu25 := Try.underlying25
  have hu39 := Try.underlying39
  have HR1_0 := Aside0.mk hr1_0
  have HC1_0 := Aside0.mk hc1_0
  clear hr1_0 hc1_0
  have HB := Aside0.mk (Below.refl w.heap.size w)
  have H : (if a0 < 1 then (antiquaryref27_Valid.j0 k a0 true l1_0) else (if a0 > 4096 then (antiquaryref27_Valid.j0 k a0 true l1_0) else (antiquaryref27_Valid.j0 k a0 ((l1_0.length : Int) != a0) l1_0))) = some r := h
  clear h
  have HC3 := Aside0.mk H
  clear H
  go_enter Try.func20, Try.ntmps20
  go_upto_region 1 with (first | ((with_reducible refine gate_dst (N := 3) rfl ?_); (try (refine gate_guard (by rfl) ?_; dsimp only)); refine box_event ?hg (N := 3) ?hd (cs := #[.slice A1_0 l1_0.length c1_0]) (t := 25) ?hr ?_; (case hd => rfl); (case hg => rfl); (case hr => first | (go_simp; done) | (go_simp; rfl)); intro gb138 hg w4 hbox hb; have n0_ := Aside0.mk (below_step (by repeat (first | (with_reducible first | exact HB.out | apply below_alloc | apply pw_below_drewN | apply below_drew1) | exact HB.out)) hb); have n1_ := Aside0.mk (hbox); have n2_ := Aside0.mk ((by rw [hg]; exact (below_size (by repeat (first | (with_reducible first | exact HB.out | apply below_alloc | apply pw_below_drewN | apply below_drew1) | exact HB.out))) : w.heap.size ≤ gb138)); have n3_ := Aside0.mk ((by rw [hg]; exact (below_size (by repeat (first | (with_reducible first | exact HB.out | apply below_alloc | apply pw_below_drewN | apply below_drew1) | exact HB.out))) : w.heap.size ≤ gb138)); clear HB; have HB := n0_; have BK138 := n1_; have GW138 := n2_; have GE138 := n3_; clear n0_ n1_ n2_ n3_; clear hb hbox hg))
  repeat (go_quiet (first | ((with_reducible refine gate_dst (N := 3) rfl ?_); (try (refine gate_guard (by rfl) ?_; dsimp only)); refine box_event ?hg (N := 3) ?hd (cs := #[.slice A1_0 l1_0.length c1_0]) (t := 25) ?hr ?_; (case hd => rfl); (case hg => rfl); (case hr => first | (go_simp; done) | (go_simp; rfl)); intro gb138 hg w4 hbox hb; have n0_ := Aside0.mk (below_step (by repeat (first | (with_reducible first | exact HB.out | apply below_alloc | apply pw_below_drewN | apply below_drew1) | exact HB.out)) hb); have n1_ := Aside0.mk (hbox); have n2_ := Aside0.mk ((by rw [hg]; exact (below_size (by repeat (first | (with_reducible first | exact HB.out | apply below_alloc | apply pw_below_drewN | apply below_drew1) | exact HB.out))) : w.heap.size ≤ gb138)); have n3_ := Aside0.mk ((by rw [hg]; exact (below_size (by repeat (first | (with_reducible first | exact HB.out | apply below_alloc | apply pw_below_drewN | apply below_drew1) | exact HB.out))) : w.heap.size ≤ gb138)); clear HB; have HB := n0_; have BK138 := n1_; have GW138 := n2_; have GE138 := n3_; clear n0_ n1_ n2_ n3_; clear hb hbox hg)); go_upto_region 1 with (first | ((with_reducible refine gate_dst (N := 3) rfl ?_); (try (refine gate_guard (by rfl) ?_; dsimp only)); refine box_event ?hg (N := 3) ?hd (cs := #[.slice A1_0 l1_0.length c1_0]) (t := 25) ?hr ?_; (case hd => rfl); (case hg => rfl); (case hr => first | (go_simp; done) | (go_simp; rfl)); intro gb138 hg w4 hbox hb; have n0_ := Aside0.mk (below_step (by repeat (first | (with_reducible first | exact HB.out | apply below_alloc | apply pw_below_drewN | apply below_drew1) | exact HB.out)) hb); have n1_ := Aside0.mk (hbox); have n2_ := Aside0.mk ((by rw [hg]; exact (below_size (by repeat (first | (with_reducible first | exact HB.out | apply below_alloc | apply pw_below_drewN | apply below_drew1) | exact HB.out))) : w.heap.size ≤ gb138)); have n3_ := Aside0.mk ((by rw [hg]; exact (below_size (by repeat (first | (with_reducible first | exact HB.out | apply below_alloc | apply pw_below_drewN | apply below_drew1) | exact HB.out))) : w.heap.size ≤ gb138)); clear HB; have HB := n0_; have BK138 := n1_; have GW138 := n2_; have GE138 := n3_; clear n0_ n1_ n2_ n3_; clear hb hbox hg)))
  (try simp only [Act.put, List.setIfInBounds_toArray, List.set_cons_zero, List.set_cons_succ])
  go_cut [20] (fun v20 wc => ∃ (kq : Nat) (x20_2 : Bool), v20 = .bool x20_2 ∧ Aside0 (antiquaryref27_Valid.j0 kq a0 x20_2 l1_0 = some r) ∧ Aside0 (kq ≤ k) ∧ Aside0 (wc.heap[gb138]? = some (.cells #[(.slice A1_0 l1_0.length c1_0)] 25 (0, 0))) ∧ Aside0 (Below w.heap.size w wc))
  case first =>
    have H := HC3.out
    clear HC3
    by_cases c5 : a0 < 1
    · rw [if_pos c5] at H
      have c5b0 : decide (a0 < 1) = true := decide_eq_true c5
      clear c5
      (first | rw [c5b0] | (simp only [i64_w, i32_w]; rw [c5b0]) | skip)
      have H' := Aside0.mk H
      clear H
      go_wp2
      repeat (go_quiet (fail); try go_wp2)
      go_meet
      case rel => exact ⟨_, (true), (by first | rfl | (simp; done) | (simp [*]; done)), H', ⟨by first | omega | exact Nat.le_refl _⟩, ⟨by (with_reducible repeat (first | refine blk_drewN ?_ _ | refine blk_drew ?_ | refine blk_alloc ?_ _)); exact BK138.out⟩, ⟨by repeat (first | (with_reducible first | exact HB.out | apply below_alloc | apply pw_below_drewN | apply below_drew1 | refine below_set ?_ GE138.out) | exact HB.out)⟩⟩
    · rw [if_neg c5] at H
      have c5b0 : decide (a0 < 1) = false := decide_eq_false c5
      clear c5
      (first | rw [c5b0] | (simp only [i64_w, i32_w]; rw [c5b0]) | skip)
      by_cases c6 : a0 > 4096
      · rw [if_pos c6] at H
        have c6b0 : decide (4096 < a0) = true := decide_eq_true c6
        clear c6
        have H' := Aside0.mk H
        clear H
        go_wp2
        repeat (go_quiet (fail); try go_wp2)
        go_meet
        case rel => exact ⟨_, (true), (by first | rfl | (simp; done) | (simp [*]; done)), H', ⟨by first | omega | exact Nat.le_refl _⟩, ⟨by (with_reducible repeat (first | refine blk_drewN ?_ _ | refine blk_drew ?_ | refine blk_alloc ?_ _)); exact BK138.out⟩, ⟨by repeat (first | (with_reducible first | exact HB.out | apply below_alloc | apply pw_below_drewN | apply below_drew1 | refine below_set ?_ GE138.out) | exact HB.out)⟩⟩
      · rw [if_neg c6] at H
        have c6b0 : decide (4096 < a0) = false := decide_eq_false c6
        clear c6
        have H' := Aside0.mk H
        clear H
        have hcz7_0 : w4.cell? ⟨gb138, 0, none⟩ = some (.slice A1_0 l1_0.length c1_0) := (blk_cell BK138.out 0).trans rfl
        have hfz7_0 := blk_frozen BK138.out 0
        go_wp2
        repeat (go_quiet (fail); try go_wp2)
        go_meet
        case rel => exact ⟨_, (((l1_0.length : Int) != a0)), (by first | rfl | (simp; done) | (simp [*]; done)), H', ⟨by first | omega | exact Nat.le_refl _⟩, ⟨by (with_reducible repeat (first | refine blk_drewN ?_ _ | refine blk_drew ?_ | refine blk_alloc ?_ _)); exact BK138.out⟩, ⟨by repeat (first | (with_reducible first | exact HB.out | apply below_alloc | apply pw_below_drewN | apply below_drew1 | refine below_set ?_ GE138.out) | exact HB.out)⟩⟩
  case rest =>
    clear HC3
    try clear c1
    try clear c2
    try clear p2
    try clear c5
    try clear c5b0
    try clear c6
    try clear c6b0
    try clear hcz7_0
    try clear hfz7_0
    obtain ⟨kq, x20_2, rfl, HA, HJ2, BK138, HB⟩ := hcut
    cases kq with
    | zero => exact absurd HA.out (by simp [antiquaryref27_Valid.j0])
    | succ kj2 =>
      have H := HA.out
      clear HA
      simp only [antiquaryref27_Valid.j0] at H
      by_cases c8 : x20_2 = true
      · subst c8
        have H1 : (some false) = some r := by rw [if_pos rfl] at H; exact H
        clear H
        have H := H1
        clear H1
        obtain rfl := Option.some.inj H
        go_wp2
        repeat (go_quiet (fail); try go_wp2)
        go_ret
        exact ⟨by first | rfl | (simp [errW_none, errW_some] <;> rfl) | (simp [*, errW_none, errW_some] <;> rfl), by repeat (first | (with_reducible first | exact HB.out | apply below_alloc | apply pw_below_drewN | apply below_drew1 | refine below_set ?_ GE138.out) | exact HB.out)⟩
      · replace c8 := Bool.eq_false_iff.mpr c8
        subst c8
        have H1 : (antiquaryref27_Valid.l0 kj2 a0 0 l1_0) = some r := by rw [if_neg (show ¬ (false = true) by decide)] at H; exact H
        clear H
        have H := H1
        clear H1
        have H' := Aside0.mk H
        clear H
        go_wp2
        repeat (go_quiet (fail); try go_wp2)
        go_loopg [5] kj2 (fun kq v5 w' => ∃ (x5_2 : Int), v5 = .int .i64 x5_2 ∧ Aside0 (antiquaryref27_Valid.l0 kq a0 x5_2 l1_0 = some r) ∧ Aside0 (kq ≤ kj2) ∧ Aside0 (w'.heap[gb138]? = some (.cells #[(.slice A1_0 l1_0.length c1_0)] 25 (0, 0))) ∧ Aside0 (Below w.heap.size w w'))
        case atStart => exact ⟨(0), (by first | rfl | (simp; done) | (simp [*]; done)), H', ⟨Nat.le_refl _⟩, ⟨by (with_reducible repeat (first | refine blk_drewN ?_ _ | refine blk_drew ?_ | refine blk_alloc ?_ _)); exact BK138.out⟩, ⟨by repeat (first | (with_reducible first | exact HB.out | apply below_alloc | apply pw_below_drewN | apply below_drew1 | refine below_set ?_ GE138.out) | exact HB.out)⟩⟩
        case round =>
          clear H'
          try clear c1
          try clear c2
          try clear p2
          try clear c5
          try clear c5b0
          try clear c6
          try clear c6b0
          try clear c8
          try clear hcz7_0
          try clear hfz7_0
          try clear p2
          obtain ⟨x5_2, rfl, HA, HK2, BK138, HB⟩ := hrel
          cases gk with
          | zero => exact absurd HA.out (by simp [antiquaryref27_Valid.l0])
          | succ k2 =>
            have H := HA.out
            clear HA
            simp only [antiquaryref27_Valid.l0] at H
            by_cases c9 : x5_2 < a0
            · rw [if_pos c9] at H
              have c9b0 : decide (x5_2 < a0) = true := decide_eq_true c9
              clear c9
              by_cases c10 : 0 ≤ x5_2
              · rw [if_pos c10] at H
                have c10b0 : decide (0 ≤ x5_2) = true := decide_eq_true c10
                clear c10
                by_cases c11 : x5_2 < (l1_0.length : Int)
                · rw [if_pos c11] at H
                  have c11b0 : decide (x5_2 < (l1_0.length : Int)) = true := decide_eq_true c11
                  clear c11
                  have HC12 := Aside0.mk H
                  clear H
                  have hcz13_0 : wr.cell? ⟨gb138, 0, none⟩ = some (.slice A1_0 l1_0.length c1_0) := (blk_cell BK138.out 0).trans rfl
                  have hfz13_0 := blk_frozen BK138.out 0
                  have p139 : 0 ≤ (x5_2 : Int) := of_decide_eq_true (by first | (with_reducible assumption) | assumption)
                  have q139 : x5_2 < (l1_0.length : Int) := of_decide_eq_true (by first | (with_reducible assumption) | assumption)
                  obtain ⟨ad139, A139_1, c139_1, e139, hx139_0, hx139_1, hl139_1, hi139_1⟩ := at_T39 HR1_0.out x5_2 p139 q139
                  cases e139
                  replace hx139_0 := (HB.out.cell (World.block_lt_of_cell? w _ hx139_0)).trans hx139_0
                  replace hx139_1 := (HB.out.cell (World.block_lt_of_cell? w _ hx139_1)).trans hx139_1
                  have HR139_1 := Aside0.mk hi139_1
                  have HC139_1 := Aside0.mk hl139_1
                  clear hi139_1 hl139_1
                  replace p139 := eq_true p139
                  replace q139 := eq_true q139
                  go_upto_region 7 with (first | ((with_reducible refine gate_dst (N := 6) rfl ?_); (try (refine gate_guard (by rfl) ?_; dsimp only)); refine box_event ?hg (N := 6) ?hd (cs := #[.int .i64 0, .slice none 0 0]) (t := 39) ?hr ?_; (case hd => rfl); (case hg => rfl); (case hr => first | (go_simp; done) | (go_simp; rfl)); intro gb140 hg w14 hbox hb; have n0_ := Aside0.mk (blk_below (g := gb138) (o := .cells #[.slice (some ad139) l1_0.length c1_0] 25 (0, 0)) (by (with_reducible repeat (first | refine blk_drewN ?_ _ | refine blk_drew ?_ | refine blk_alloc ?_ _)); exact BK138.out) hb); have n1_ := Aside0.mk (below_step (by repeat (first | (with_reducible first | exact HB.out | apply below_alloc | apply pw_below_drewN | apply below_drew1 | refine below_set ?_ GE138.out) | exact HB.out)) hb); have n2_ := Aside0.mk (hbox); have n3_ := Aside0.mk ((by rw [hg]; exact (below_size (by repeat (first | (with_reducible first | exact HB.out | apply below_alloc | apply pw_below_drewN | apply below_drew1 | refine below_set ?_ GE138.out) | exact HB.out))) : w.heap.size ≤ gb140)); have n4_ := Aside0.mk ((by rw [hg]; exact (below_size (by repeat (first | (with_reducible first | exact HB.out | apply below_alloc | apply pw_below_drewN | apply below_drew1 | refine below_set ?_ GE138.out) | exact HB.out))) : w.heap.size ≤ gb140)); have n5_ := Aside0.mk ((by rw [hg]; exact Nat.ne_of_lt (blk_lt (g := gb138) (o := .cells #[.slice (some ad139) l1_0.length c1_0] 25 (0, 0)) (by (with_reducible repeat (first | refine blk_drewN ?_ _ | refine blk_drew ?_ | refine blk_alloc ?_ _)); exact BK138.out)) : gb138 ≠ gb140)); have n6_ := Aside0.mk ((by rw [hg]; exact Nat.ne_of_gt (blk_lt (g := gb138) (o := .cells #[.slice (some ad139) l1_0.length c1_0] 25 (0, 0)) (by (with_reducible repeat (first | refine blk_drewN ?_ _ | refine blk_drew ?_ | refine blk_alloc ?_ _)); exact BK138.out)) : gb140 ≠ gb138)); clear BK138; clear HB; have BK138 := n0_; have HB := n1_; have BK140 := n2_; have GW140 := n3_; have GE140 := n4_; have NB138_140 := n5_; have NB140_138 := n6_; clear n0_ n1_ n2_ n3_ n4_ n5_ n6_; clear hb hbox hg; have hnb15 := NB140_138.out; have hnc15 := NB138_140.out; have hcz16_0 : w14.cell? ⟨gb140, 0, none⟩ = some (.int .i64 0) := (blk_cell BK140.out 0).trans rfl; have hcz16_1 : w14.cell? ⟨gb140, 1, none⟩ = some (.slice none 0 0) := (blk_cell BK140.out 1).trans rfl; have hfz16_0 := blk_frozen BK140.out 0; have hfz16_1 := blk_frozen BK140.out 1))
                  repeat (go_quiet (first | ((with_reducible refine gate_dst (N := 6) rfl ?_); (try (refine gate_guard (by rfl) ?_; dsimp only)); refine box_event ?hg (N := 6) ?hd (cs := #[.int .i64 0, .slice none 0 0]) (t := 39) ?hr ?_; (case hd => rfl); (case hg => rfl); (case hr => first | (go_simp; done) | (go_simp; rfl)); intro gb140 hg w14 hbox hb; have n0_ := Aside0.mk (blk_below (g := gb138) (o := .cells #[.slice (some ad139) l1_0.length c1_0] 25 (0, 0)) (by (with_reducible repeat (first | refine blk_drewN ?_ _ | refine blk_drew ?_ | refine blk_alloc ?_ _)); exact BK138.out) hb); have n1_ := Aside0.mk (below_step (by repeat (first | (with_reducible first | exact HB.out | apply below_alloc | apply pw_below_drewN | apply below_drew1 | refine below_set ?_ GE138.out) | exact HB.out)) hb); have n2_ := Aside0.mk (hbox); have n3_ := Aside0.mk ((by rw [hg]; exact (below_size (by repeat (first | (with_reducible first | exact HB.out | apply below_alloc | apply pw_below_drewN | apply below_drew1 | refine below_set ?_ GE138.out) | exact HB.out))) : w.heap.size ≤ gb140)); have n4_ := Aside0.mk ((by rw [hg]; exact (below_size (by repeat (first | (with_reducible first | exact HB.out | apply below_alloc | apply pw_below_drewN | apply below_drew1 | refine below_set ?_ GE138.out) | exact HB.out))) : w.heap.size ≤ gb140)); have n5_ := Aside0.mk ((by rw [hg]; exact Nat.ne_of_lt (blk_lt (g := gb138) (o := .cells #[.slice (some ad139) l1_0.length c1_0] 25 (0, 0)) (by (with_reducible repeat (first | refine blk_drewN ?_ _ | refine blk_drew ?_ | refine blk_alloc ?_ _)); exact BK138.out)) : gb138 ≠ gb140)); have n6_ := Aside0.mk ((by rw [hg]; exact Nat.ne_of_gt (blk_lt (g := gb138) (o := .cells #[.slice (some ad139) l1_0.length c1_0] 25 (0, 0)) (by (with_reducible repeat (first | refine blk_drewN ?_ _ | refine blk_drew ?_ | refine blk_alloc ?_ _)); exact BK138.out)) : gb140 ≠ gb138)); clear BK138; clear HB; have BK138 := n0_; have HB := n1_; have BK140 := n2_; have GW140 := n3_; have GE140 := n4_; have NB138_140 := n5_; have NB140_138 := n6_; clear n0_ n1_ n2_ n3_ n4_ n5_ n6_; clear hb hbox hg; have hnb15 := NB140_138.out; have hnc15 := NB138_140.out; have hcz16_0 : w14.cell? ⟨gb140, 0, none⟩ = some (.int .i64 0) := (blk_cell BK140.out 0).trans rfl; have hcz16_1 : w14.cell? ⟨gb140, 1, none⟩ = some (.slice none 0 0) := (blk_cell BK140.out 1).trans rfl; have hfz16_0 := blk_frozen BK140.out 0; have hfz16_1 := blk_frozen BK140.out 1)); go_upto_region 7 with (first | ((with_reducible refine gate_dst (N := 6) rfl ?_); (try (refine gate_guard (by rfl) ?_; dsimp only)); refine box_event ?hg (N := 6) ?hd (cs := #[.int .i64 0, .slice none 0 0]) (t := 39) ?hr ?_; (case hd => rfl); (case hg => rfl); (case hr => first | (go_simp; done) | (go_simp; rfl)); intro gb140 hg w14 hbox hb; have n0_ := Aside0.mk (blk_below (g := gb138) (o := .cells #[.slice (some ad139) l1_0.length c1_0] 25 (0, 0)) (by (with_reducible repeat (first | refine blk_drewN ?_ _ | refine blk_drew ?_ | refine blk_alloc ?_ _)); exact BK138.out) hb); have n1_ := Aside0.mk (below_step (by repeat (first | (with_reducible first | exact HB.out | apply below_alloc | apply pw_below_drewN | apply below_drew1 | refine below_set ?_ GE138.out) | exact HB.out)) hb); have n2_ := Aside0.mk (hbox); have n3_ := Aside0.mk ((by rw [hg]; exact (below_size (by repeat (first | (with_reducible first | exact HB.out | apply below_alloc | apply pw_below_drewN | apply below_drew1 | refine below_set ?_ GE138.out) | exact HB.out))) : w.heap.size ≤ gb140)); have n4_ := Aside0.mk ((by rw [hg]; exact (below_size (by repeat (first | (with_reducible first | exact HB.out | apply below_alloc | apply pw_below_drewN | apply below_drew1 | refine below_set ?_ GE138.out) | exact HB.out))) : w.heap.size ≤ gb140)); have n5_ := Aside0.mk ((by rw [hg]; exact Nat.ne_of_lt (blk_lt (g := gb138) (o := .cells #[.slice (some ad139) l1_0.length c1_0] 25 (0, 0)) (by (with_reducible repeat (first | refine blk_drewN ?_ _ | refine blk_drew ?_ | refine blk_alloc ?_ _)); exact BK138.out)) : gb138 ≠ gb140)); have n6_ := Aside0.mk ((by rw [hg]; exact Nat.ne_of_gt (blk_lt (g := gb138) (o := .cells #[.slice (some ad139) l1_0.length c1_0] 25 (0, 0)) (by (with_reducible repeat (first | refine blk_drewN ?_ _ | refine blk_drew ?_ | refine blk_alloc ?_ _)); exact BK138.out)) : gb140 ≠ gb138)); clear BK138; clear HB; have BK138 := n0_; have HB := n1_; have BK140 := n2_; have GW140 := n3_; have GE140 := n4_; have NB138_140 := n5_; have NB140_138 := n6_; clear n0_ n1_ n2_ n3_ n4_ n5_ n6_; clear hb hbox hg; have hnb15 := NB140_138.out; have hnc15 := NB138_140.out; have hcz16_0 : w14.cell? ⟨gb140, 0, none⟩ = some (.int .i64 0) := (blk_cell BK140.out 0).trans rfl; have hcz16_1 : w14.cell? ⟨gb140, 1, none⟩ = some (.slice none 0 0) := (blk_cell BK140.out 1).trans rfl; have hfz16_0 := blk_frozen BK140.out 0; have hfz16_1 := blk_frozen BK140.out 1)))
                  (try simp only [Act.put, List.setIfInBounds_toArray, List.set_cons_zero, List.set_cons_succ])
                  go_cut [45] (fun v45 wc => ∃ (kq : Nat) (x45_11 : Bool), v45 = .bool x45_11 ∧ Aside0 (antiquaryref27_Valid.j2 kq a0 x5_2 x45_11 l1_0 ((rd_T39 l1_0 x5_2).f0) ((rd_T39 l1_0 x5_2).f1) = some r) ∧ Aside0 (kq ≤ k2) ∧ Aside0 (wc.heap[gb138]? = some (.cells #[(.slice (some ad139) l1_0.length c1_0)] 25 (0, 0))) ∧ Aside0 (wc.heap[gb140]? = some (.cells #[.int .i64 ((rd_T39 l1_0 x5_2).f0), (.slice A139_1 ((rd_T39 l1_0 x5_2).f1).length c139_1)] 39 (0, 0))) ∧ Aside0 (Below w.heap.size w wc))
                  case first =>
                    have H := HC12.out
                    clear HC12
                    by_cases c17 : ((rd_T39 l1_0 x5_2).f0) < 0
                    · rw [if_pos c17] at H
                      have c17b0 : decide (((rd_T39 l1_0 x5_2).f0) < 0) = true := decide_eq_true c17
                      clear c17
                      (first | rw [c17b0] | (simp only [i64_w, i32_w]; rw [c17b0]) | skip)
                      have H' := Aside0.mk H
                      clear H
                      have hnb18 := NB140_138.out
                      have hnc18 := NB138_140.out
                      have hcz19_0 : w14.cell? ⟨gb140, 0, none⟩ = some (.int .i64 0) := (blk_cell BK140.out 0).trans rfl
                      have hcz19_1 : w14.cell? ⟨gb140, 1, none⟩ = some (.slice none 0 0) := (blk_cell BK140.out 1).trans rfl
                      have hfz19_0 := blk_frozen BK140.out 0
                      have hfz19_1 := blk_frozen BK140.out 1
                      go_wp2
                      repeat (go_quiet (fail); try go_wp2)
                      go_meet
                      case rel => exact ⟨_, (true), (by first | rfl | (simp; done) | (simp [*]; done)), H', ⟨by have := HJ2.out; have := HK2.out; first | omega | exact Nat.le_refl _⟩, ⟨by (with_reducible repeat (first | refine blk_drewN ?_ _ | refine blk_drew ?_ | refine blk_alloc ?_ _)); refine blk_far ?_ NB138_140.out _; (with_reducible repeat (first | refine blk_drewN ?_ _ | refine blk_drew ?_ | refine blk_alloc ?_ _)); refine blk_far ?_ NB138_140.out _; (with_reducible repeat (first | refine blk_drewN ?_ _ | refine blk_drew ?_ | refine blk_alloc ?_ _)); exact BK138.out⟩, ⟨by (with_reducible repeat (first | refine blk_drewN ?_ _ | refine blk_drew ?_ | refine blk_alloc ?_ _)); refine blk_put (cs := #[.int .i64 ((rd_T39 l1_0 x5_2).f0), .slice none 0 0]) ?_ 1 _ rfl; (with_reducible repeat (first | refine blk_drewN ?_ _ | refine blk_drew ?_ | refine blk_alloc ?_ _)); refine blk_put (cs := #[.int .i64 0, .slice none 0 0]) ?_ 0 _ rfl; (with_reducible repeat (first | refine blk_drewN ?_ _ | refine blk_drew ?_ | refine blk_alloc ?_ _)); exact BK140.out⟩, ⟨by repeat (first | (with_reducible first | exact HB.out | apply below_alloc | apply pw_below_drewN | apply below_drew1 | refine below_set ?_ GE138.out | refine below_set ?_ GE140.out) | exact HB.out)⟩⟩
                    · rw [if_neg c17] at H
                      have c17b0 : decide (((rd_T39 l1_0 x5_2).f0) < 0) = false := decide_eq_false c17
                      clear c17
                      (first | rw [c17b0] | (simp only [i64_w, i32_w]; rw [c17b0]) | skip)
                      by_cases c20 : ((rd_T39 l1_0 x5_2).f0) > 134217728
                      · rw [if_pos c20] at H
                        have c20b0 : decide (134217728 < ((rd_T39 l1_0 x5_2).f0)) = true := decide_eq_true c20
                        clear c20
                        have H' := Aside0.mk H
                        clear H
                        have hnb21 := NB140_138.out
                        have hnc21 := NB138_140.out
                        have hcz22_0 : w14.cell? ⟨gb140, 0, none⟩ = some (.int .i64 0) := (blk_cell BK140.out 0).trans rfl
                        have hcz22_1 : w14.cell? ⟨gb140, 1, none⟩ = some (.slice none 0 0) := (blk_cell BK140.out 1).trans rfl
                        have hfz22_0 := blk_frozen BK140.out 0
                        have hfz22_1 := blk_frozen BK140.out 1
                        go_wp2
                        repeat (go_quiet (fail); try go_wp2)
                        go_meet
                        case rel => exact ⟨_, (true), (by first | rfl | (simp; done) | (simp [*]; done)), H', ⟨by have := HJ2.out; have := HK2.out; first | omega | exact Nat.le_refl _⟩, ⟨by (with_reducible repeat (first | refine blk_drewN ?_ _ | refine blk_drew ?_ | refine blk_alloc ?_ _)); refine blk_far ?_ NB138_140.out _; (with_reducible repeat (first | refine blk_drewN ?_ _ | refine blk_drew ?_ | refine blk_alloc ?_ _)); refine blk_far ?_ NB138_140.out _; (with_reducible repeat (first | refine blk_drewN ?_ _ | refine blk_drew ?_ | refine blk_alloc ?_ _)); exact BK138.out⟩, ⟨by (with_reducible repeat (first | refine blk_drewN ?_ _ | refine blk_drew ?_ | refine blk_alloc ?_ _)); refine blk_put (cs := #[.int .i64 ((rd_T39 l1_0 x5_2).f0), .slice none 0 0]) ?_ 1 _ rfl; (with_reducible repeat (first | refine blk_drewN ?_ _ | refine blk_drew ?_ | refine blk_alloc ?_ _)); refine blk_put (cs := #[.int .i64 0, .slice none 0 0]) ?_ 0 _ rfl; (with_reducible repeat (first | refine blk_drewN ?_ _ | refine blk_drew ?_ | refine blk_alloc ?_ _)); exact BK140.out⟩, ⟨by repeat (first | (with_reducible first | exact HB.out | apply below_alloc | apply pw_below_drewN | apply below_drew1 | refine below_set ?_ GE138.out | refine below_set ?_ GE140.out) | exact HB.out)⟩⟩
                      · rw [if_neg c20] at H
                        have c20b0 : decide (134217728 < ((rd_T39 l1_0 x5_2).f0)) = false := decide_eq_false c20
                        clear c20
                        replace H := Option.bind_eq_some_iff.mp H
                        obtain ⟨t141, A230, H⟩ := H
                        replace H : (antiquaryref27_Valid.j2 k2 a0 x5_2 (!t141) l1_0 ((rd_T39 l1_0 x5_2).f0) ((rd_T39 l1_0 x5_2).f1)) = some r := H
                        have A23 := Aside0.mk A230
                        clear A230
                        have H' := Aside0.mk H
                        clear H
                        have hnb24 := NB140_138.out
                        have hnc24 := NB138_140.out
                        have hcz25_0 : w14.cell? ⟨gb140, 0, none⟩ = some (.int .i64 0) := (blk_cell BK140.out 0).trans rfl
                        have hcz25_1 : w14.cell? ⟨gb140, 1, none⟩ = some (.slice none 0 0) := (blk_cell BK140.out 1).trans rfl
                        have hfz25_0 := blk_frozen BK140.out 0
                        have hfz25_1 := blk_frozen BK140.out 1
                        go_wp2_with (first | (go_at_call 42; (with_reducible refine (antiquaryref27_has.calls k2 _ _ ((rd_T39 l1_0 x5_2).f1) x5_2 t141 _ ?side1 ?side2 A23.out).mono ?_); (case side1 => exact Kd.C_below HR139_1.out (by repeat (first | (with_reducible first | exact HB.out | apply below_alloc | apply pw_below_drewN | apply below_drew1 | refine below_set ?_ GE138.out | refine below_set ?_ GE140.out) | exact HB.out))); (case side2 => exact HC139_1.out); rintro e w' ⟨rfl, ⟨nd, rfl⟩⟩; (try first | exact ⟨rfl, _, World.drewN_drewN _ _ _⟩ | exact ⟨rfl, _, Eq.trans (World.drewN_drewN _ _ _) (congrArg (World.drewN _) (Nat.add_assoc _ _ _))⟩)))
                        repeat (go_quiet (first | (go_at_call 42; (with_reducible refine (antiquaryref27_has.calls k2 _ _ ((rd_T39 l1_0 x5_2).f1) x5_2 t141 _ ?side1 ?side2 A23.out).mono ?_); (case side1 => exact Kd.C_below HR139_1.out (by repeat (first | (with_reducible first | exact HB.out | apply below_alloc | apply pw_below_drewN | apply below_drew1 | refine below_set ?_ GE138.out | refine below_set ?_ GE140.out) | exact HB.out))); (case side2 => exact HC139_1.out); rintro e w' ⟨rfl, ⟨nd, rfl⟩⟩; (try first | exact ⟨rfl, _, World.drewN_drewN _ _ _⟩ | exact ⟨rfl, _, Eq.trans (World.drewN_drewN _ _ _) (congrArg (World.drewN _) (Nat.add_assoc _ _ _))⟩))); try go_wp2_with (first | (go_at_call 42; (with_reducible refine (antiquaryref27_has.calls k2 _ _ ((rd_T39 l1_0 x5_2).f1) x5_2 t141 _ ?side1 ?side2 A23.out).mono ?_); (case side1 => exact Kd.C_below HR139_1.out (by repeat (first | (with_reducible first | exact HB.out | apply below_alloc | apply pw_below_drewN | apply below_drew1 | refine below_set ?_ GE138.out | refine below_set ?_ GE140.out) | exact HB.out))); (case side2 => exact HC139_1.out); rintro e w' ⟨rfl, ⟨nd, rfl⟩⟩; (try first | exact ⟨rfl, _, World.drewN_drewN _ _ _⟩ | exact ⟨rfl, _, Eq.trans (World.drewN_drewN _ _ _) (congrArg (World.drewN _) (Nat.add_assoc _ _ _))⟩))))
                        go_meet
                        case rel => exact ⟨_, (!t141), (by first | rfl | (simp; done) | (simp [*]; done)), H', ⟨by have := HJ2.out; have := HK2.out; first | omega | exact Nat.le_refl _⟩, ⟨by (with_reducible repeat (first | refine blk_drewN ?_ _ | refine blk_drew ?_ | refine blk_alloc ?_ _)); refine blk_far ?_ NB138_140.out _; (with_reducible repeat (first | refine blk_drewN ?_ _ | refine blk_drew ?_ | refine blk_alloc ?_ _)); refine blk_far ?_ NB138_140.out _; (with_reducible repeat (first | refine blk_drewN ?_ _ | refine blk_drew ?_ | refine blk_alloc ?_ _)); exact BK138.out⟩, ⟨by (with_reducible repeat (first | refine blk_drewN ?_ _ | refine blk_drew ?_ | refine blk_alloc ?_ _)); refine blk_put (cs := #[.int .i64 ((rd_T39 l1_0 x5_2).f0), .slice none 0 0]) ?_ 1 _ rfl; (with_reducible repeat (first | refine blk_drewN ?_ _ | refine blk_drew ?_ | refine blk_alloc ?_ _)); refine blk_put (cs := #[.int .i64 0, .slice none 0 0]) ?_ 0 _ rfl; (with_reducible repeat (first | refine blk_drewN ?_ _ | refine blk_drew ?_ | refine blk_alloc ?_ _)); exact BK140.out⟩, ⟨by repeat (first | (with_reducible first | exact HB.out | apply below_alloc | apply pw_below_drewN | apply below_drew1 | refine below_set ?_ GE138.out | refine below_set ?_ GE140.out) | exact HB.out)⟩⟩
                  case rest =>
                    clear HC12
                    try clear c1
                    try clear p1
                    try clear q1
                    try clear hx1
                    try clear c2
                    try clear p2
                    try clear c5
                    try clear c5b0
                    try clear c6
                    try clear c6b0
                    try clear c8
                    try clear c9
                    try clear c9b0
                    try clear c10
                    try clear c10b0
                    try clear c11
                    try clear c11b0
                    try clear c13
                    try clear p13
                    try clear q13
                    try clear hx13
                    try clear c15
                    try clear c17
                    try clear c17b0
                    try clear c18
                    try clear c20
                    try clear c20b0
                    try clear c21
                    try clear c24
                    try clear hcz13_0
                    try clear hcz16_0
                    try clear hcz16_1
                    try clear hcz19_0
                    try clear hcz19_1
                    try clear hcz22_0
                    try clear hcz22_1
                    try clear hcz25_0
                    try clear hcz25_1
                    try clear hcz7_0
                    try clear hfz13_0
                    try clear hfz16_0
                    try clear hfz16_1
                    try clear hfz19_0
                    try clear hfz19_1
                    try clear hfz22_0
                    try clear hfz22_1
                    try clear hfz25_0
                    try clear hfz25_1
                    try clear hfz7_0
                    try clear hx139_0
                    try clear hx139_1
                    try clear p139
                    try clear p2
                    try clear q139
                    obtain ⟨kq, x45_11, rfl, HA, HJ11, BK138, BK140, HB⟩ := hcut
                    cases kq with
                    | zero => exact absurd HA.out (by simp [antiquaryref27_Valid.j2])
                    | succ kj11 =>
                      have H := HA.out
                      clear HA
                      simp only [antiquaryref27_Valid.j2] at H
                      by_cases c26 : x45_11 = true
                      · subst c26
                        have H1 : (some false) = some r := by rw [if_pos rfl] at H; exact H
                        clear H
                        have H := H1
                        clear H1
                        obtain rfl := Option.some.inj H
                        go_wp2
                        repeat (go_quiet (fail); try go_wp2)
                        go_ret
                        exact ⟨by first | rfl | (simp [errW_none, errW_some] <;> rfl) | (simp [*, errW_none, errW_some] <;> rfl), by repeat (first | (with_reducible first | exact HB.out | apply below_alloc | apply pw_below_drewN | apply below_drew1 | refine below_set ?_ GE138.out | refine below_set ?_ GE140.out) | exact HB.out)⟩
                      · replace c26 := Bool.eq_false_iff.mpr c26
                        subst c26
                        have H1 : (antiquaryref27_Valid.l1 kj11 a0 x5_2 0 l1_0 ((rd_T39 l1_0 x5_2).f0) ((rd_T39 l1_0 x5_2).f1)) = some r := by rw [if_neg (show ¬ (false = true) by decide)] at H; exact H
                        clear H
                        have H := H1
                        clear H1
                        have H' := Aside0.mk H
                        clear H
                        go_wp2
                        repeat (go_quiet (fail); try go_wp2)
                        go_loopg [7] kj11 (fun kq v7 w' => ∃ (x7_4 : Int), v7 = .int .i64 x7_4 ∧ Aside0 (antiquaryref27_Valid.l1 kq a0 x5_2 x7_4 l1_0 ((rd_T39 l1_0 x5_2).f0) ((rd_T39 l1_0 x5_2).f1) = some r) ∧ Aside0 (kq ≤ kj11) ∧ Aside0 (w'.heap[gb138]? = some (.cells #[(.slice (some ad139) l1_0.length c1_0)] 25 (0, 0))) ∧ Aside0 (w'.heap[gb140]? = some (.cells #[.int .i64 ((rd_T39 l1_0 x5_2).f0), (.slice A139_1 ((rd_T39 l1_0 x5_2).f1).length c139_1)] 39 (0, 0))) ∧ Aside0 (Below w.heap.size w w'))
                        case atStart => exact ⟨(0), (by first | rfl | (simp; done) | (simp [*]; done)), H', ⟨Nat.le_refl _⟩, ⟨by (with_reducible repeat (first | refine blk_drewN ?_ _ | refine blk_drew ?_ | refine blk_alloc ?_ _)); exact BK138.out⟩, ⟨by (with_reducible repeat (first | refine blk_drewN ?_ _ | refine blk_drew ?_ | refine blk_alloc ?_ _)); exact BK140.out⟩, ⟨by repeat (first | (with_reducible first | exact HB.out | apply below_alloc | apply pw_below_drewN | apply below_drew1 | refine below_set ?_ GE138.out | refine below_set ?_ GE140.out) | exact HB.out)⟩⟩
                        case round =>
                          clear H'
                          try clear c1
                          try clear p1
                          try clear q1
                          try clear hx1
                          try clear c2
                          try clear p2
                          try clear c5
                          try clear c5b0
                          try clear c6
                          try clear c6b0
                          try clear c8
                          try clear c9
                          try clear c9b0
                          try clear c10
                          try clear c10b0
                          try clear c11
                          try clear c11b0
                          try clear c13
                          try clear p13
                          try clear q13
                          try clear hx13
                          try clear c15
                          try clear c17
                          try clear c17b0
                          try clear c18
                          try clear c20
                          try clear c20b0
                          try clear c21
                          try clear c24
                          try clear c26
                          try clear hcz13_0
                          try clear hcz16_0
                          try clear hcz16_1
                          try clear hcz19_0
                          try clear hcz19_1
                          try clear hcz22_0
                          try clear hcz22_1
                          try clear hcz25_0
                          try clear hcz25_1
                          try clear hcz7_0
                          try clear hfz13_0
                          try clear hfz16_0
                          try clear hfz16_1
                          try clear hfz19_0
                          try clear hfz19_1
                          try clear hfz22_0
                          try clear hfz22_1
                          try clear hfz25_0
                          try clear hfz25_1
                          try clear hfz7_0
                          try clear hx139_0
                          try clear hx139_1
                          try clear p1
                          try clear p13
                          try clear p139
                          try clear p2
                          try clear q1
                          try clear q13
                          try clear q139
                          obtain ⟨x7_4, rfl, HA, HK4, BK138, BK140, HB⟩ := hrel
                          cases gk with
                          | zero => exact absurd HA.out (by simp [antiquaryref27_Valid.l1])
                          | succ k4 =>
                            have H := HA.out
                            clear HA
                            simp only [antiquaryref27_Valid.l1] at H
                            by_cases c27 : x7_4 < (((rd_T39 l1_0 x5_2).f1).length : Int)
                            · rw [if_pos c27] at H
                              have c27b0 : decide (x7_4 < (((rd_T39 l1_0 x5_2).f1).length : Int)) = true := decide_eq_true c27
                              clear c27
                              by_cases c28 : 0 ≤ x7_4
                              · rw [if_pos c28] at H
                                have c28b0 : decide (0 ≤ x7_4) = true := decide_eq_true c28
                                clear c28
                                by_cases c29 : (rd ((rd_T39 l1_0 x5_2).f1) x7_4) < 0
                                · rw [if_pos c29] at H
                                  have c29b0 : decide ((rd ((rd_T39 l1_0 x5_2).f1) x7_4) < 0) = true := decide_eq_true c29
                                  clear c29
                                  obtain rfl := Option.some.inj H
                                  have hnb30 := NB140_138.out
                                  have hnc30 := NB138_140.out
                                  have hcz31_0 : wr.cell? ⟨gb140, 0, none⟩ = some (.int .i64 ((rd_T39 l1_0 x5_2).f0)) := (blk_cell BK140.out 0).trans rfl
                                  have hcz31_1 : wr.cell? ⟨gb140, 1, none⟩ = some (.slice A139_1 ((rd_T39 l1_0 x5_2).f1).length c139_1) := (blk_cell BK140.out 1).trans rfl
                                  have hfz31_0 := blk_frozen BK140.out 0
                                  have hfz31_1 := blk_frozen BK140.out 1
                                  have p142 : 0 ≤ (x7_4 : Int) := of_decide_eq_true (by first | (with_reducible assumption) | assumption)
                                  have q142 : x7_4 < (((rd_T39 l1_0 x5_2).f1).length : Int) := of_decide_eq_true (by first | (with_reducible assumption) | assumption)
                                  obtain ⟨ad142, e142, hx142_0⟩ := Kd.at_int HR139_1.out x7_4 p142 q142
                                  cases e142
                                  replace hx142_0 := (HB.out.cell (World.block_lt_of_cell? w _ hx142_0)).trans hx142_0
                                  replace p142 := eq_true p142
                                  replace q142 := eq_true q142
                                  go_wp2
                                  repeat (go_quiet (fail); try go_wp2)
                                  go_ret
                                  exact ⟨by first | rfl | (simp [errW_none, errW_some] <;> rfl) | (simp [*, errW_none, errW_some] <;> rfl), by repeat (first | (with_reducible first | exact HB.out | apply below_alloc | apply pw_below_drewN | apply below_drew1 | refine below_set ?_ GE138.out | refine below_set ?_ GE140.out) | exact HB.out)⟩
                                · rw [if_neg c29] at H
                                  have c29b0 : decide ((rd ((rd_T39 l1_0 x5_2).f1) x7_4) < 0) = false := decide_eq_false c29
                                  clear c29
                                  by_cases c32 : (rd ((rd_T39 l1_0 x5_2).f1) x7_4) ≥ a0
                                  · rw [if_pos c32] at H
                                    have c32b0 : decide (a0 ≤ (rd ((rd_T39 l1_0 x5_2).f1) x7_4)) = true := decide_eq_true c32
                                    clear c32
                                    obtain rfl := Option.some.inj H
                                    have hnb33 := NB140_138.out
                                    have hnc33 := NB138_140.out
                                    have hcz34_0 : wr.cell? ⟨gb140, 0, none⟩ = some (.int .i64 ((rd_T39 l1_0 x5_2).f0)) := (blk_cell BK140.out 0).trans rfl
                                    have hcz34_1 : wr.cell? ⟨gb140, 1, none⟩ = some (.slice A139_1 ((rd_T39 l1_0 x5_2).f1).length c139_1) := (blk_cell BK140.out 1).trans rfl
                                    have hfz34_0 := blk_frozen BK140.out 0
                                    have hfz34_1 := blk_frozen BK140.out 1
                                    have p142 : 0 ≤ (x7_4 : Int) := of_decide_eq_true (by first | (with_reducible assumption) | assumption)
                                    have q142 : x7_4 < (((rd_T39 l1_0 x5_2).f1).length : Int) := of_decide_eq_true (by first | (with_reducible assumption) | assumption)
                                    obtain ⟨ad142, e142, hx142_0⟩ := Kd.at_int HR139_1.out x7_4 p142 q142
                                    cases e142
                                    replace hx142_0 := (HB.out.cell (World.block_lt_of_cell? w _ hx142_0)).trans hx142_0
                                    replace p142 := eq_true p142
                                    replace q142 := eq_true q142
                                    have p143 : 0 ≤ (x7_4 : Int) := of_decide_eq_true (by first | (with_reducible assumption) | assumption)
                                    have q143 : x7_4 < (((rd_T39 l1_0 x5_2).f1).length : Int) := of_decide_eq_true (by first | (with_reducible assumption) | assumption)
                                    obtain ⟨ad143, e143, hx143_0⟩ := Kd.at_int HR139_1.out x7_4 p143 q143
                                    obtain rfl : ad142 = ad143 := (by injection e143)
                                    replace hx143_0 := (HB.out.cell (World.block_lt_of_cell? w _ hx143_0)).trans hx143_0
                                    replace p143 := eq_true p143
                                    replace q143 := eq_true q143
                                    go_wp2
                                    repeat (go_quiet (fail); try go_wp2)
                                    go_ret
                                    exact ⟨by first | rfl | (simp [errW_none, errW_some] <;> rfl) | (simp [*, errW_none, errW_some] <;> rfl), by repeat (first | (with_reducible first | exact HB.out | apply below_alloc | apply pw_below_drewN | apply below_drew1 | refine below_set ?_ GE138.out | refine below_set ?_ GE140.out) | exact HB.out)⟩
                                  · rw [if_neg c32] at H
                                    have c32b0 : decide (a0 ≤ (rd ((rd_T39 l1_0 x5_2).f1) x7_4)) = false := decide_eq_false c32
                                    clear c32
                                    by_cases c35 : x7_4 > 0
                                    · rw [if_pos c35] at H
                                      have c35b0 : decide (0 < x7_4) = true := decide_eq_true c35
                                      clear c35
                                      obtain ⟨ji36, hji36⟩ : ∃ j_ : Int, (wrap64 (x7_4 - 1)) = j_ := ⟨_, rfl⟩
                                      replace H : (if 0 ≤ (ji36) then (if (ji36) < (((rd_T39 l1_0 x5_2).f1).length : Int) then (if (rd ((rd_T39 l1_0 x5_2).f1) x7_4) ≤ (rd ((rd_T39 l1_0 x5_2).f1) (ji36)) then (some false) else (antiquaryref27_Valid.l1 k4 a0 x5_2 (wrap64 (x7_4 + 1)) l1_0 ((rd_T39 l1_0 x5_2).f0) ((rd_T39 l1_0 x5_2).f1))) else (none)) else (none)) = some r := by first | (rw [hji36] at H; exact H) | (simp only [hji36] at H ⊢; exact H)
                                      have hji36w : (IntKind.i64.wrap (x7_4 - 1)) = ji36 := (i64_w _).trans hji36
                                      by_cases c37 : 0 ≤ (ji36)
                                      · rw [if_pos c37] at H
                                        have c37b0 : decide (0 ≤ (ji36)) = true := decide_eq_true c37
                                        clear c37
                                        by_cases c38 : (ji36) < (((rd_T39 l1_0 x5_2).f1).length : Int)
                                        · rw [if_pos c38] at H
                                          have c38b0 : decide ((ji36) < (((rd_T39 l1_0 x5_2).f1).length : Int)) = true := decide_eq_true c38
                                          clear c38
                                          by_cases c39 : (rd ((rd_T39 l1_0 x5_2).f1) x7_4) ≤ (rd ((rd_T39 l1_0 x5_2).f1) (ji36))
                                          · rw [if_pos c39] at H
                                            have c39b0 : decide ((rd ((rd_T39 l1_0 x5_2).f1) x7_4) ≤ (rd ((rd_T39 l1_0 x5_2).f1) (ji36))) = true := decide_eq_true c39
                                            clear c39
                                            obtain rfl := Option.some.inj H
                                            have hnb40 := NB140_138.out
                                            have hnc40 := NB138_140.out
                                            have hcz41_0 : wr.cell? ⟨gb140, 0, none⟩ = some (.int .i64 ((rd_T39 l1_0 x5_2).f0)) := (blk_cell BK140.out 0).trans rfl
                                            have hcz41_1 : wr.cell? ⟨gb140, 1, none⟩ = some (.slice A139_1 ((rd_T39 l1_0 x5_2).f1).length c139_1) := (blk_cell BK140.out 1).trans rfl
                                            have hfz41_0 := blk_frozen BK140.out 0
                                            have hfz41_1 := blk_frozen BK140.out 1
                                            have p142 : 0 ≤ (x7_4 : Int) := of_decide_eq_true (by first | (with_reducible assumption) | assumption)
                                            have q142 : x7_4 < (((rd_T39 l1_0 x5_2).f1).length : Int) := of_decide_eq_true (by first | (with_reducible assumption) | assumption)
                                            obtain ⟨ad142, e142, hx142_0⟩ := Kd.at_int HR139_1.out x7_4 p142 q142
                                            cases e142
                                            replace hx142_0 := (HB.out.cell (World.block_lt_of_cell? w _ hx142_0)).trans hx142_0
                                            replace p142 := eq_true p142
                                            replace q142 := eq_true q142
                                            have p143 : 0 ≤ (x7_4 : Int) := of_decide_eq_true (by first | (with_reducible assumption) | assumption)
                                            have q143 : x7_4 < (((rd_T39 l1_0 x5_2).f1).length : Int) := of_decide_eq_true (by first | (with_reducible assumption) | assumption)
                                            obtain ⟨ad143, e143, hx143_0⟩ := Kd.at_int HR139_1.out x7_4 p143 q143
                                            obtain rfl : ad142 = ad143 := (by injection e143)
                                            replace hx143_0 := (HB.out.cell (World.block_lt_of_cell? w _ hx143_0)).trans hx143_0
                                            replace p143 := eq_true p143
                                            replace q143 := eq_true q143
                                            have p144 : 0 ≤ (x7_4 : Int) := of_decide_eq_true (by first | (with_reducible assumption) | assumption)
                                            have q144 : x7_4 < (((rd_T39 l1_0 x5_2).f1).length : Int) := of_decide_eq_true (by first | (with_reducible assumption) | assumption)
                                            obtain ⟨ad144, e144, hx144_0⟩ := Kd.at_int HR139_1.out x7_4 p144 q144
                                            obtain rfl : ad142 = ad144 := (by injection e144)
                                            replace hx144_0 := (HB.out.cell (World.block_lt_of_cell? w _ hx144_0)).trans hx144_0
                                            replace p144 := eq_true p144
                                            replace q144 := eq_true q144
                                            have p145 : 0 ≤ ((ji36) : Int) := of_decide_eq_true (by first | (with_reducible assumption) | assumption)
                                            have q145 : (ji36) < (((rd_T39 l1_0 x5_2).f1).length : Int) := of_decide_eq_true (by first | (with_reducible assumption) | assumption)
                                            obtain ⟨ad145, e145, hx145_0⟩ := Kd.at_int HR139_1.out (ji36) p145 q145
                                            obtain rfl : ad142 = ad145 := (by injection e145)
                                            replace hx145_0 := (HB.out.cell (World.block_lt_of_cell? w _ hx145_0)).trans hx145_0
                                            replace p145 := eq_true p145
                                            replace q145 := eq_true q145
                                            go_wp2
                                            repeat (go_quiet (fail); try go_wp2)
                                            go_ret
                                            exact ⟨by first | rfl | (simp [errW_none, errW_some] <;> rfl) | (simp only [← hji36]; first | rfl | (simp [errW_none, errW_some] <;> rfl)) | (simp [*, errW_none, errW_some] <;> rfl), by repeat (first | (with_reducible first | exact HB.out | apply below_alloc | apply pw_below_drewN | apply below_drew1 | refine below_set ?_ GE138.out | refine below_set ?_ GE140.out) | exact HB.out)⟩
                                          · rw [if_neg c39] at H
                                            have c39b0 : decide ((rd ((rd_T39 l1_0 x5_2).f1) x7_4) ≤ (rd ((rd_T39 l1_0 x5_2).f1) (ji36))) = false := decide_eq_false c39
                                            clear c39
                                            have H' := Aside0.mk H
                                            clear H
                                            have hnb42 := NB140_138.out
                                            have hnc42 := NB138_140.out
                                            have hcz43_0 : wr.cell? ⟨gb140, 0, none⟩ = some (.int .i64 ((rd_T39 l1_0 x5_2).f0)) := (blk_cell BK140.out 0).trans rfl
                                            have hcz43_1 : wr.cell? ⟨gb140, 1, none⟩ = some (.slice A139_1 ((rd_T39 l1_0 x5_2).f1).length c139_1) := (blk_cell BK140.out 1).trans rfl
                                            have hfz43_0 := blk_frozen BK140.out 0
                                            have hfz43_1 := blk_frozen BK140.out 1
                                            have p142 : 0 ≤ (x7_4 : Int) := of_decide_eq_true (by first | (with_reducible assumption) | assumption)
                                            have q142 : x7_4 < (((rd_T39 l1_0 x5_2).f1).length : Int) := of_decide_eq_true (by first | (with_reducible assumption) | assumption)
                                            obtain ⟨ad142, e142, hx142_0⟩ := Kd.at_int HR139_1.out x7_4 p142 q142
                                            cases e142
                                            replace hx142_0 := (HB.out.cell (World.block_lt_of_cell? w _ hx142_0)).trans hx142_0
                                            replace p142 := eq_true p142
                                            replace q142 := eq_true q142
                                            have p143 : 0 ≤ (x7_4 : Int) := of_decide_eq_true (by first | (with_reducible assumption) | assumption)
                                            have q143 : x7_4 < (((rd_T39 l1_0 x5_2).f1).length : Int) := of_decide_eq_true (by first | (with_reducible assumption) | assumption)
                                            obtain ⟨ad143, e143, hx143_0⟩ := Kd.at_int HR139_1.out x7_4 p143 q143
                                            obtain rfl : ad142 = ad143 := (by injection e143)
                                            replace hx143_0 := (HB.out.cell (World.block_lt_of_cell? w _ hx143_0)).trans hx143_0
                                            replace p143 := eq_true p143
                                            replace q143 := eq_true q143
                                            have p144 : 0 ≤ (x7_4 : Int) := of_decide_eq_true (by first | (with_reducible assumption) | assumption)
                                            have q144 : x7_4 < (((rd_T39 l1_0 x5_2).f1).length : Int) := of_decide_eq_true (by first | (with_reducible assumption) | assumption)
                                            obtain ⟨ad144, e144, hx144_0⟩ := Kd.at_int HR139_1.out x7_4 p144 q144
                                            obtain rfl : ad142 = ad144 := (by injection e144)
                                            replace hx144_0 := (HB.out.cell (World.block_lt_of_cell? w _ hx144_0)).trans hx144_0
                                            replace p144 := eq_true p144
                                            replace q144 := eq_true q144
                                            have p145 : 0 ≤ ((ji36) : Int) := of_decide_eq_true (by first | (with_reducible assumption) | assumption)
                                            have q145 : (ji36) < (((rd_T39 l1_0 x5_2).f1).length : Int) := of_decide_eq_true (by first | (with_reducible assumption) | assumption)
                                            obtain ⟨ad145, e145, hx145_0⟩ := Kd.at_int HR139_1.out (ji36) p145 q145
                                            obtain rfl : ad142 = ad145 := (by injection e145)
                                            replace hx145_0 := (HB.out.cell (World.block_lt_of_cell? w _ hx145_0)).trans hx145_0
                                            replace p145 := eq_true p145
                                            replace q145 := eq_true q145
                                            go_wp2
                                            repeat (go_quiet (fail); try go_wp2)
                                            go_roundg k4
                                            case measure => have := HJ2.out; have := HK2.out; have := HJ11.out; have := HK4.out; omega
                                            case rel => exact ⟨(wrap64 (x7_4 + 1)), (by first | rfl | (simp; done) | (simp [*]; done)), H', ⟨by have := HJ2.out; have := HK2.out; have := HJ11.out; have := HK4.out; omega⟩, ⟨by (with_reducible repeat (first | refine blk_drewN ?_ _ | refine blk_drew ?_ | refine blk_alloc ?_ _)); exact BK138.out⟩, ⟨by (with_reducible repeat (first | refine blk_drewN ?_ _ | refine blk_drew ?_ | refine blk_alloc ?_ _)); exact BK140.out⟩, ⟨by repeat (first | (with_reducible first | exact HB.out | apply below_alloc | apply pw_below_drewN | apply below_drew1 | refine below_set ?_ GE138.out | refine below_set ?_ GE140.out) | exact HB.out)⟩⟩
                                        · rw [if_neg c38] at H
                                          exact absurd H (by simp)
                                      · rw [if_neg c37] at H
                                        exact absurd H (by simp)
                                    · rw [if_neg c35] at H
                                      have c35b0 : decide (0 < x7_4) = false := decide_eq_false c35
                                      clear c35
                                      have H' := Aside0.mk H
                                      clear H
                                      have hnb44 := NB140_138.out
                                      have hnc44 := NB138_140.out
                                      have hcz45_0 : wr.cell? ⟨gb140, 0, none⟩ = some (.int .i64 ((rd_T39 l1_0 x5_2).f0)) := (blk_cell BK140.out 0).trans rfl
                                      have hcz45_1 : wr.cell? ⟨gb140, 1, none⟩ = some (.slice A139_1 ((rd_T39 l1_0 x5_2).f1).length c139_1) := (blk_cell BK140.out 1).trans rfl
                                      have hfz45_0 := blk_frozen BK140.out 0
                                      have hfz45_1 := blk_frozen BK140.out 1
                                      have p142 : 0 ≤ (x7_4 : Int) := of_decide_eq_true (by first | (with_reducible assumption) | assumption)
                                      have q142 : x7_4 < (((rd_T39 l1_0 x5_2).f1).length : Int) := of_decide_eq_true (by first | (with_reducible assumption) | assumption)
                                      obtain ⟨ad142, e142, hx142_0⟩ := Kd.at_int HR139_1.out x7_4 p142 q142
                                      cases e142
                                      replace hx142_0 := (HB.out.cell (World.block_lt_of_cell? w _ hx142_0)).trans hx142_0
                                      replace p142 := eq_true p142
                                      replace q142 := eq_true q142
                                      have p143 : 0 ≤ (x7_4 : Int) := of_decide_eq_true (by first | (with_reducible assumption) | assumption)
                                      have q143 : x7_4 < (((rd_T39 l1_0 x5_2).f1).length : Int) := of_decide_eq_true (by first | (with_reducible assumption) | assumption)
                                      obtain ⟨ad143, e143, hx143_0⟩ := Kd.at_int HR139_1.out x7_4 p143 q143
                                      obtain rfl : ad142 = ad143 := (by injection e143)
                                      replace hx143_0 := (HB.out.cell (World.block_lt_of_cell? w _ hx143_0)).trans hx143_0
                                      replace p143 := eq_true p143
                                      replace q143 := eq_true q143
                                      go_wp2
                                      repeat (go_quiet (fail); try go_wp2)
                                      go_roundg k4
                                      case measure => have := HJ2.out; have := HK2.out; have := HJ11.out; have := HK4.out; omega
                                      case rel => exact ⟨(wrap64 (x7_4 + 1)), (by first | rfl | (simp; done) | (simp [*]; done)), H', ⟨by have := HJ2.out; have := HK2.out; have := HJ11.out; have := HK4.out; omega⟩, ⟨by (with_reducible repeat (first | refine blk_drewN ?_ _ | refine blk_drew ?_ | refine blk_alloc ?_ _)); exact BK138.out⟩, ⟨by (with_reducible repeat (first | refine blk_drewN ?_ _ | refine blk_drew ?_ | refine blk_alloc ?_ _)); exact BK140.out⟩, ⟨by repeat (first | (with_reducible first | exact HB.out | apply below_alloc | apply pw_below_drewN | apply below_drew1 | refine below_set ?_ GE138.out | refine below_set ?_ GE140.out) | exact HB.out)⟩⟩
                              · rw [if_neg c28] at H
                                exact absurd H (by simp)
                            · rw [if_neg c27] at H
                              have c27b0 : decide (x7_4 < (((rd_T39 l1_0 x5_2).f1).length : Int)) = false := decide_eq_false c27
                              clear c27
                              have H' := Aside0.mk H
                              clear H
                              have hnb46 := NB140_138.out
                              have hnc46 := NB138_140.out
                              have hcz47_0 : wr.cell? ⟨gb140, 0, none⟩ = some (.int .i64 ((rd_T39 l1_0 x5_2).f0)) := (blk_cell BK140.out 0).trans rfl
                              have hcz47_1 : wr.cell? ⟨gb140, 1, none⟩ = some (.slice A139_1 ((rd_T39 l1_0 x5_2).f1).length c139_1) := (blk_cell BK140.out 1).trans rfl
                              have hfz47_0 := blk_frozen BK140.out 0
                              have hfz47_1 := blk_frozen BK140.out 1
                              go_wp2
                              repeat (go_quiet (fail); try go_wp2)
                              go_roundg k4
                              case measure => have := HJ2.out; have := HK2.out; have := HJ11.out; have := HK4.out; omega
                              case rel => exact ⟨(wrap64 (x5_2 + 1)), (by first | rfl | (simp; done) | (simp [*]; done)), H', ⟨by have := HJ2.out; have := HK2.out; have := HJ11.out; have := HK4.out; omega⟩, ⟨by (with_reducible repeat (first | refine blk_drewN ?_ _ | refine blk_drew ?_ | refine blk_alloc ?_ _)); exact BK138.out⟩, ⟨by repeat (first | (with_reducible first | exact HB.out | apply below_alloc | apply pw_below_drewN | apply below_drew1 | refine below_set ?_ GE138.out | refine below_set ?_ GE140.out) | exact HB.out)⟩⟩
                · rw [if_neg c11] at H
                  exact absurd H (by simp)
              · rw [if_neg c10] at H
                exact absurd H (by simp)
            · rw [if_neg c9] at H
              have c9b0 : decide (x5_2 < a0) = false := decide_eq_false c9
              clear c9
              obtain rfl := Option.some.inj H
              go_wp2
              repeat (go_quiet (fail); try go_wp2)
              go_ret
              exact ⟨by first | rfl | (simp [errW_none, errW_some] <;> rfl) | (simp [*, errW_none, errW_some] <;> rfl), by repeat (first | (with_reducible first | exact HB.out | apply below_alloc | apply pw_below_drewN | apply below_drew1 | refine below_set ?_ GE138.out) | exact HB.out)⟩

-- STAGE 0 antiquaryref27_Right
/-! ### antiquaryref27_Right: function 8 -/
def antiquaryref27_Right.f (k : Nat) (a0 : Int) (l1 : List (List Int)) (l2_0 : List (S39)) : Option (Bool) := (antiquaryref09_Metric.f a0).bind fun t147 => (if t147 = true then ((antiquaryref09_Fit.f k l1).bind fun t148 => (if t148 = true then ((antiquaryref27_Valid.f k (l1.length : Int) l2_0).bind fun t149 => (some t149)) else (some false))) else (some false))
theorem antiquaryref27_Right.mono : ∀ a0 a1 a2 k, LeO (antiquaryref27_Right.f k a0 a1 a2) (antiquaryref27_Right.f (k + 1) a0 a1 a2) := by
  intro a0 a1 a2 k
  unfold antiquaryref27_Right.f
  repeat' first
      | (with_reducible exact antiquaryref09_Fit.mono _ _)
      | (with_reducible exact antiquaryref27_Valid.mono _ _ _)
      | (with_reducible exact LeO.refl _)
      | (with_reducible exact LeO.none _)
      | (with_reducible refine LeO.ite ?_ ?_)
      | (with_reducible refine LeO.bind ?_ (fun _ => ?_))
      | exact antiquaryref09_Fit.mono _ _
      | exact antiquaryref27_Valid.mono _ _ _
      | exact LeO.none _
      | refine LeO.ite ?_ ?_
      | refine LeO.bind ?_ (fun _ => ?_)
set_option maxHeartbeats 8000000 in
set_option maxRecDepth 100000 in
theorem antiquaryref27_Right.calls (k : Nat) (a0 : Int) (A1 : Option Addr) (c1 : Nat) (l1 : List (List Int)) (A2_0 : Option Addr) (c2_0 : Nat) (l2_0 : List (S39)) (r : Bool) (w : World) (hr1 : Kd.C (Kd.slice 3 (Kd.int .i64)) w A1 l1.length l1) (hc1 : l1.length ≤ c1) (hr2_0 : Kd.C k39 w A2_0 l2_0.length l2_0) (hc2_0 : l2_0.length ≤ c2_0) (h : antiquaryref27_Right.f k a0 l1 l2_0 = some r) :
    Calls Try.prog 8 #[.int .i64 a0, .slice A1 l1.length c1, .agg #[.slice A2_0 l2_0.length c2_0]] w fun e w' => e = .returned (.bool r) ∧ Below w.heap.size w w' := by
  have hu25 := Try.underlying25
  have HR1 := Aside0.mk hr1
  have HC1 := Aside0.mk hc1
  clear hr1 hc1
  have HR2_0 := Aside0.mk hr2_0
  have HC2_0 := Aside0.mk hc2_0
  clear hr2_0 hc2_0
  have HB := Aside0.mk (Below.refl w.heap.size w)
  have H : ((antiquaryref09_Metric.f a0).bind fun t147 => (if t147 = true then ((antiquaryref09_Fit.f k l1).bind fun t148 => (if t148 = true then ((antiquaryref27_Valid.f k (l1.length : Int) l2_0).bind fun t149 => (some t149)) else (some false))) else (some false))) = some r := h
  clear h
  replace H := Option.bind_eq_some_iff.mp H
  obtain ⟨t147, A40, H⟩ := H
  replace H : (if t147 = true then ((antiquaryref09_Fit.f k l1).bind fun t148 => (if t148 = true then ((antiquaryref27_Valid.f k (l1.length : Int) l2_0).bind fun t149 => (some t149)) else (some false))) else (some false)) = some r := H
  have A4 := Aside0.mk A40
  clear A40
  by_cases c5 : t147 = true
  · subst c5
    have H1 : ((antiquaryref09_Fit.f k l1).bind fun t148 => (if t148 = true then ((antiquaryref27_Valid.f k (l1.length : Int) l2_0).bind fun t149 => (some t149)) else (some false))) = some r := by rw [if_pos rfl] at H; exact H
    clear H
    have H := H1
    clear H1
    replace H := Option.bind_eq_some_iff.mp H
    obtain ⟨t148, A60, H⟩ := H
    replace H : (if t148 = true then ((antiquaryref27_Valid.f k (l1.length : Int) l2_0).bind fun t149 => (some t149)) else (some false)) = some r := H
    have A6 := Aside0.mk A60
    clear A60
    by_cases c7 : t148 = true
    · subst c7
      have H1 : ((antiquaryref27_Valid.f k (l1.length : Int) l2_0).bind fun t149 => (some t149)) = some r := by rw [if_pos rfl] at H; exact H
      clear H
      have H := H1
      clear H1
      replace H := Option.bind_eq_some_iff.mp H
      obtain ⟨t149, A80, H⟩ := H
      replace H : (some t149) = some r := H
      have A8 := Aside0.mk A80
      clear A80
      obtain rfl := Option.some.inj H
      go_enter Try.func8, Try.ntmps8
      go_wp2_with (first | ((with_reducible refine gate_dst (N := 5) rfl ?_); (try (refine gate_guard (by rfl) ?_; dsimp only)); refine box_event ?hg (N := 5) ?hd (cs := #[.slice A2_0 l2_0.length c2_0]) (t := 25) ?hr ?_; (case hd => rfl); (case hg => rfl); (case hr => first | (go_simp; done) | (go_simp; rfl)); intro gb146 hg w9 hbox hb; have n0_ := Aside0.mk (below_step (by repeat (first | (with_reducible first | exact HB.out | apply below_alloc | apply pw_below_drewN | apply below_drew1) | exact HB.out)) hb); have n1_ := Aside0.mk (hbox); have n2_ := Aside0.mk ((by rw [hg]; exact (below_size (by repeat (first | (with_reducible first | exact HB.out | apply below_alloc | apply pw_below_drewN | apply below_drew1) | exact HB.out))) : w.heap.size ≤ gb146)); have n3_ := Aside0.mk ((by rw [hg]; exact (below_size (by repeat (first | (with_reducible first | exact HB.out | apply below_alloc | apply pw_below_drewN | apply below_drew1) | exact HB.out))) : w.heap.size ≤ gb146)); clear HB; have HB := n0_; have BK146 := n1_; have GW146 := n2_; have GE146 := n3_; clear n0_ n1_ n2_ n3_; clear hb hbox hg) | ((with_reducible refine gate_callee (f := 15) rfl ?_); refine goesL_ (some 8) rfl rfl Try.func15 (by kernel_rfl) rfl #[.int .i64 a0] rfl (by (try simp only [List.map_toArray, List.map_cons, List.map_nil]); first | done | rfl | (simp only [List.length_drop, List.length_take]; rfl)) ?_; (with_reducible refine (antiquaryref09_Metric.calls a0 true _ A4.out).mono ?_); rintro e w' ⟨rfl, ⟨nd, rfl⟩⟩; refine ⟨_, rfl, ?_⟩) | (go_at_call 16; (with_reducible refine (antiquaryref09_Fit.calls k _ _ l1 true _ ?side1 ?side2 A6.out).mono ?_); (case side1 => repeat (first | exact (Kd.C_below HR1.out (by repeat (first | (with_reducible first | exact HB.out | apply below_alloc | apply pw_below_drewN | apply below_drew1 | refine below_set ?_ GE146.out) | exact HB.out))) | (with_reducible refine Kd.C_alloc ?_ _) | (with_reducible refine Kd.C_drewN ?_ _) | (with_reducible refine Kd.C_drew ?_))); (case side2 => exact HC1.out); rintro e w' ⟨rfl, ⟨nd, rfl⟩⟩; have hcz10_0 : w9.cell? ⟨gb146, 0, none⟩ = some (.slice A2_0 l2_0.length c2_0) := (blk_cell BK146.out 0).trans rfl; have hfz10_0 := blk_frozen BK146.out 0) | (go_at_call 20; (with_reducible refine (antiquaryref27_Valid.calls k (l1.length : Int) _ _ l2_0 t149 _ ?side1 ?side2 A8.out).mono ?_); (case side1 => repeat (first | exact (Kd.C_below HR2_0.out (by repeat (first | (with_reducible first | exact HB.out | apply below_alloc | apply pw_below_drewN | apply below_drew1 | refine below_set ?_ GE146.out) | exact HB.out))) | (with_reducible refine Kd.C_alloc ?_ _) | (with_reducible refine Kd.C_drewN ?_ _) | (with_reducible refine Kd.C_drew ?_))); (case side2 => exact HC2_0.out); rintro e w11 ⟨rfl, hb⟩; have n0_ := Aside0.mk (blk_below (g := gb146) (o := .cells #[.slice A2_0 l2_0.length c2_0] 25 (0, 0)) (by (with_reducible repeat (first | refine blk_drewN ?_ _ | refine blk_drew ?_ | refine blk_alloc ?_ _)); exact BK146.out) hb); have n1_ := Aside0.mk (below_step (by repeat (first | (with_reducible first | exact HB.out | apply below_alloc | apply pw_below_drewN | apply below_drew1 | refine below_set ?_ GE146.out) | exact HB.out)) hb); clear BK146; clear HB; have BK146 := n0_; have HB := n1_; clear n0_ n1_; (try clear hb); (try clear hb2); (try clear hk); (try clear hi)))
      go_ret
      exact ⟨by first | rfl | (simp [errW_none, errW_some] <;> rfl) | (simp [*, errW_none, errW_some] <;> rfl), by repeat (first | (with_reducible first | exact HB.out | apply below_alloc | apply pw_below_drewN | apply below_drew1 | refine below_set ?_ GE146.out) | exact HB.out)⟩
    · replace c7 := Bool.eq_false_iff.mpr c7
      subst c7
      have H1 : (some false) = some r := by rw [if_neg (show ¬ (false = true) by decide)] at H; exact H
      clear H
      have H := H1
      clear H1
      obtain rfl := Option.some.inj H
      go_enter Try.func8, Try.ntmps8
      go_wp2_with (first | ((with_reducible refine gate_dst (N := 5) rfl ?_); (try (refine gate_guard (by rfl) ?_; dsimp only)); refine box_event ?hg (N := 5) ?hd (cs := #[.slice A2_0 l2_0.length c2_0]) (t := 25) ?hr ?_; (case hd => rfl); (case hg => rfl); (case hr => first | (go_simp; done) | (go_simp; rfl)); intro gb146 hg w12 hbox hb; have n0_ := Aside0.mk (below_step (by repeat (first | (with_reducible first | exact HB.out | apply below_alloc | apply pw_below_drewN | apply below_drew1) | exact HB.out)) hb); have n1_ := Aside0.mk (hbox); have n2_ := Aside0.mk ((by rw [hg]; exact (below_size (by repeat (first | (with_reducible first | exact HB.out | apply below_alloc | apply pw_below_drewN | apply below_drew1) | exact HB.out))) : w.heap.size ≤ gb146)); have n3_ := Aside0.mk ((by rw [hg]; exact (below_size (by repeat (first | (with_reducible first | exact HB.out | apply below_alloc | apply pw_below_drewN | apply below_drew1) | exact HB.out))) : w.heap.size ≤ gb146)); clear HB; have HB := n0_; have BK146 := n1_; have GW146 := n2_; have GE146 := n3_; clear n0_ n1_ n2_ n3_; clear hb hbox hg) | ((with_reducible refine gate_callee (f := 15) rfl ?_); refine goesL_ (some 8) rfl rfl Try.func15 (by kernel_rfl) rfl #[.int .i64 a0] rfl (by (try simp only [List.map_toArray, List.map_cons, List.map_nil]); first | done | rfl | (simp only [List.length_drop, List.length_take]; rfl)) ?_; (with_reducible refine (antiquaryref09_Metric.calls a0 true _ A4.out).mono ?_); rintro e w' ⟨rfl, ⟨nd, rfl⟩⟩; refine ⟨_, rfl, ?_⟩) | (go_at_call 16; (with_reducible refine (antiquaryref09_Fit.calls k _ _ l1 false _ ?side1 ?side2 A6.out).mono ?_); (case side1 => repeat (first | exact (Kd.C_below HR1.out (by repeat (first | (with_reducible first | exact HB.out | apply below_alloc | apply pw_below_drewN | apply below_drew1 | refine below_set ?_ GE146.out) | exact HB.out))) | (with_reducible refine Kd.C_alloc ?_ _) | (with_reducible refine Kd.C_drewN ?_ _) | (with_reducible refine Kd.C_drew ?_))); (case side2 => exact HC1.out); rintro e w' ⟨rfl, ⟨nd, rfl⟩⟩))
      go_ret
      exact ⟨by first | rfl | (simp [errW_none, errW_some] <;> rfl) | (simp [*, errW_none, errW_some] <;> rfl), by repeat (first | (with_reducible first | exact HB.out | apply below_alloc | apply pw_below_drewN | apply below_drew1 | refine below_set ?_ GE146.out) | exact HB.out)⟩
  · replace c5 := Bool.eq_false_iff.mpr c5
    subst c5
    have H1 : (some false) = some r := by rw [if_neg (show ¬ (false = true) by decide)] at H; exact H
    clear H
    have H := H1
    clear H1
    obtain rfl := Option.some.inj H
    go_enter Try.func8, Try.ntmps8
    go_wp2_with (first | ((with_reducible refine gate_dst (N := 5) rfl ?_); (try (refine gate_guard (by rfl) ?_; dsimp only)); refine box_event ?hg (N := 5) ?hd (cs := #[.slice A2_0 l2_0.length c2_0]) (t := 25) ?hr ?_; (case hd => rfl); (case hg => rfl); (case hr => first | (go_simp; done) | (go_simp; rfl)); intro gb146 hg w13 hbox hb; have n0_ := Aside0.mk (below_step (by repeat (first | (with_reducible first | exact HB.out | apply below_alloc | apply pw_below_drewN | apply below_drew1) | exact HB.out)) hb); have n1_ := Aside0.mk (hbox); have n2_ := Aside0.mk ((by rw [hg]; exact (below_size (by repeat (first | (with_reducible first | exact HB.out | apply below_alloc | apply pw_below_drewN | apply below_drew1) | exact HB.out))) : w.heap.size ≤ gb146)); have n3_ := Aside0.mk ((by rw [hg]; exact (below_size (by repeat (first | (with_reducible first | exact HB.out | apply below_alloc | apply pw_below_drewN | apply below_drew1) | exact HB.out))) : w.heap.size ≤ gb146)); clear HB; have HB := n0_; have BK146 := n1_; have GW146 := n2_; have GE146 := n3_; clear n0_ n1_ n2_ n3_; clear hb hbox hg) | ((with_reducible refine gate_callee (f := 15) rfl ?_); refine goesL_ (some 8) rfl rfl Try.func15 (by kernel_rfl) rfl #[.int .i64 a0] rfl (by (try simp only [List.map_toArray, List.map_cons, List.map_nil]); first | done | rfl | (simp only [List.length_drop, List.length_take]; rfl)) ?_; (with_reducible refine (antiquaryref09_Metric.calls a0 false _ A4.out).mono ?_); rintro e w' ⟨rfl, ⟨nd, rfl⟩⟩; refine ⟨_, rfl, ?_⟩))
    go_ret
    exact ⟨by first | rfl | (simp [errW_none, errW_some] <;> rfl) | (simp [*, errW_none, errW_some] <;> rfl), by repeat (first | (with_reducible first | exact HB.out | apply below_alloc | apply pw_below_drewN | apply below_drew1 | refine below_set ?_ GE146.out) | exact HB.out)⟩

-- STAGE 0 antiquaryref04_Alike
/-! ### antiquaryref04_Alike: function 9 -/
def antiquaryref04_Alike.f (k : Nat) (l0 : List Int) (l1 : List Int) : Option (Bool) := (antiquaryref04_Valid.f k l0).bind fun t150 => (if t150 = true then ((antiquaryref04_Valid.f k l1).bind fun t151 => (if t151 = true then (some ((l0.length : Int) == (l1.length : Int))) else (some false))) else (some false))
theorem antiquaryref04_Alike.mono : ∀ a0 a1 k, LeO (antiquaryref04_Alike.f k a0 a1) (antiquaryref04_Alike.f (k + 1) a0 a1) := by
  intro a0 a1 k
  unfold antiquaryref04_Alike.f
  repeat' first
      | (with_reducible exact antiquaryref04_Valid.mono _ _)
      | (with_reducible exact LeO.refl _)
      | (with_reducible exact LeO.none _)
      | (with_reducible refine LeO.ite ?_ ?_)
      | (with_reducible refine LeO.bind ?_ (fun _ => ?_))
      | exact antiquaryref04_Valid.mono _ _
      | exact LeO.none _
      | refine LeO.ite ?_ ?_
      | refine LeO.bind ?_ (fun _ => ?_)
set_option maxHeartbeats 8000000 in
set_option maxRecDepth 100000 in
theorem antiquaryref04_Alike.calls (k : Nat) (A0 : Option Addr) (c0 : Nat) (l0 : List Int) (A1 : Option Addr) (c1 : Nat) (l1 : List Int) (r : Bool) (w : World) (hr0 : Kd.C (Kd.int .i64) w A0 l0.length l0) (hc0 : l0.length ≤ c0) (hr1 : Kd.C (Kd.int .i64) w A1 l1.length l1) (hc1 : l1.length ≤ c1) (h : antiquaryref04_Alike.f k l0 l1 = some r) :
    Calls Try.prog 9 #[.slice A0 l0.length c0, .slice A1 l1.length c1] w fun e w' => e = .returned (.bool r) ∧ Drawn0 w w' := by
  have HR0 := Aside0.mk hr0
  have HC0 := Aside0.mk hc0
  clear hr0 hc0
  have HR1 := Aside0.mk hr1
  have HC1 := Aside0.mk hc1
  clear hr1 hc1
  have H : ((antiquaryref04_Valid.f k l0).bind fun t150 => (if t150 = true then ((antiquaryref04_Valid.f k l1).bind fun t151 => (if t151 = true then (some ((l0.length : Int) == (l1.length : Int))) else (some false))) else (some false))) = some r := h
  clear h
  replace H := Option.bind_eq_some_iff.mp H
  obtain ⟨t150, A30, H⟩ := H
  replace H : (if t150 = true then ((antiquaryref04_Valid.f k l1).bind fun t151 => (if t151 = true then (some ((l0.length : Int) == (l1.length : Int))) else (some false))) else (some false)) = some r := H
  have A3 := Aside0.mk A30
  clear A30
  by_cases c4 : t150 = true
  · subst c4
    have H1 : ((antiquaryref04_Valid.f k l1).bind fun t151 => (if t151 = true then (some ((l0.length : Int) == (l1.length : Int))) else (some false))) = some r := by rw [if_pos rfl] at H; exact H
    clear H
    have H := H1
    clear H1
    replace H := Option.bind_eq_some_iff.mp H
    obtain ⟨t151, A50, H⟩ := H
    replace H : (if t151 = true then (some ((l0.length : Int) == (l1.length : Int))) else (some false)) = some r := H
    have A5 := Aside0.mk A50
    clear A50
    by_cases c6 : t151 = true
    · subst c6
      have H1 : (some ((l0.length : Int) == (l1.length : Int))) = some r := by rw [if_pos rfl] at H; exact H
      clear H
      have H := H1
      clear H1
      obtain rfl := Option.some.inj H
      go_enter Try.func9, Try.ntmps9
      go_wp2_with (first | ((with_reducible refine gate_callee (f := 21) rfl ?_); refine goesL_ (some 6) rfl rfl Try.func21 (by kernel_rfl) rfl #[.slice A0 l0.length c0] rfl (by (try simp only [List.map_toArray, List.map_cons, List.map_nil]); first | done | rfl | (simp only [List.length_drop, List.length_take]; rfl)) ?_; (with_reducible refine (antiquaryref04_Valid.calls k _ _ l0 true _ ?side1 ?side2 A3.out).mono ?_); (case side1 => repeat (first | exact HR0.out | (with_reducible refine Kd.C_alloc ?_ _) | (with_reducible refine Kd.C_drewN ?_ _) | (with_reducible refine Kd.C_drew ?_))); (case side2 => exact HC0.out); rintro e w' ⟨rfl, ⟨nd, rfl⟩⟩; refine ⟨_, rfl, ?_⟩) | (go_at_call 21; (with_reducible refine (antiquaryref04_Valid.calls k _ _ l1 true _ ?side1 ?side2 A5.out).mono ?_); (case side1 => repeat (first | exact HR1.out | (with_reducible refine Kd.C_alloc ?_ _) | (with_reducible refine Kd.C_drewN ?_ _) | (with_reducible refine Kd.C_drew ?_))); (case side2 => exact HC1.out); rintro e w' ⟨rfl, ⟨nd, rfl⟩⟩))
      go_ret
      exact ⟨by first | rfl | (simp; done) | (simp [*]; done), by repeat (first | exact Drawn0.refl _ | apply Drawn0.step)⟩
    · replace c6 := Bool.eq_false_iff.mpr c6
      subst c6
      have H1 : (some false) = some r := by rw [if_neg (show ¬ (false = true) by decide)] at H; exact H
      clear H
      have H := H1
      clear H1
      obtain rfl := Option.some.inj H
      go_enter Try.func9, Try.ntmps9
      go_wp2_with (first | ((with_reducible refine gate_callee (f := 21) rfl ?_); refine goesL_ (some 6) rfl rfl Try.func21 (by kernel_rfl) rfl #[.slice A0 l0.length c0] rfl (by (try simp only [List.map_toArray, List.map_cons, List.map_nil]); first | done | rfl | (simp only [List.length_drop, List.length_take]; rfl)) ?_; (with_reducible refine (antiquaryref04_Valid.calls k _ _ l0 true _ ?side1 ?side2 A3.out).mono ?_); (case side1 => repeat (first | exact HR0.out | (with_reducible refine Kd.C_alloc ?_ _) | (with_reducible refine Kd.C_drewN ?_ _) | (with_reducible refine Kd.C_drew ?_))); (case side2 => exact HC0.out); rintro e w' ⟨rfl, ⟨nd, rfl⟩⟩; refine ⟨_, rfl, ?_⟩) | (go_at_call 21; (with_reducible refine (antiquaryref04_Valid.calls k _ _ l1 false _ ?side1 ?side2 A5.out).mono ?_); (case side1 => repeat (first | exact HR1.out | (with_reducible refine Kd.C_alloc ?_ _) | (with_reducible refine Kd.C_drewN ?_ _) | (with_reducible refine Kd.C_drew ?_))); (case side2 => exact HC1.out); rintro e w' ⟨rfl, ⟨nd, rfl⟩⟩))
      go_ret
      exact ⟨by first | rfl | (simp; done) | (simp [*]; done), by repeat (first | exact Drawn0.refl _ | apply Drawn0.step)⟩
  · replace c4 := Bool.eq_false_iff.mpr c4
    subst c4
    have H1 : (some false) = some r := by rw [if_neg (show ¬ (false = true) by decide)] at H; exact H
    clear H
    have H := H1
    clear H1
    obtain rfl := Option.some.inj H
    go_enter Try.func9, Try.ntmps9
    go_wp2_with (first | ((with_reducible refine gate_callee (f := 21) rfl ?_); refine goesL_ (some 6) rfl rfl Try.func21 (by kernel_rfl) rfl #[.slice A0 l0.length c0] rfl (by (try simp only [List.map_toArray, List.map_cons, List.map_nil]); first | done | rfl | (simp only [List.length_drop, List.length_take]; rfl)) ?_; (with_reducible refine (antiquaryref04_Valid.calls k _ _ l0 false _ ?side1 ?side2 A3.out).mono ?_); (case side1 => repeat (first | exact HR0.out | (with_reducible refine Kd.C_alloc ?_ _) | (with_reducible refine Kd.C_drewN ?_ _) | (with_reducible refine Kd.C_drew ?_))); (case side2 => exact HC0.out); rintro e w' ⟨rfl, ⟨nd, rfl⟩⟩; refine ⟨_, rfl, ?_⟩))
    go_ret
    exact ⟨by first | rfl | (simp; done) | (simp [*]; done), by repeat (first | exact Drawn0.refl _ | apply Drawn0.step)⟩

end Go.Proofs.Ythbkomkgciemiaa.PKM
/- The reference's Key, around, Valid in plain terms. -/
namespace Go.Proofs.Ythbkomkgciemiaa.PKM
open Go.Proofs.Ythbkomkgciemiaa.RF
open Go.RowKit Go.Proofs.YthbkomkgciemiaaW.PrintWords Go.Proofs.YthbkomkgciemiaaW.PrintLast Go.Proofs.YthbkomkgciemiaaW.PrintMore
attribute [local go_sem] max2_int min2_int max_two min_two max_three min_three max_four min_four
set_option linter.unusedVariables false
set_option linter.unusedSimpArgs false
end Go.Proofs.Ythbkomkgciemiaa.PKM
/- The reference's Valid of graphs in plain terms. -/
namespace Go.Proofs.Ythbkomkgciemiaa.PKM
open Go.Proofs.Ythbkomkgciemiaa.RF
open Go.RowKit Go.Proofs.YthbkomkgciemiaaW.PrintWords Go.Proofs.YthbkomkgciemiaaW.PrintLast Go.Proofs.YthbkomkgciemiaaW.PrintMore
attribute [local go_sem] max2_int min2_int max_two min_two max_three min_three max_four min_four
set_option linter.unusedVariables false
set_option linter.unusedSimpArgs false
theorem has_loop (xs : List Int) (x : Int) (hx : xs.length ≤ 4096) (d : Nat) : ∀ i : Nat, i + d = xs.length → ∃ k r, antiquaryref27_has.l0 k xs x i = some r ∧ (r = true ↔ ∃ q : Nat, i ≤ q ∧ q < xs.length ∧ rd xs q = x) := by
  induction d with
  | zero =>
    intro i hi
    refine ⟨1, false, ?_, ⟨fun h => (by cases h), fun ⟨q, h1, h2, _⟩ => by omega⟩⟩
    unfold antiquaryref27_has.l0; rw [if_neg (by omega)]
  | succ d ih =>
    intro i hi
    by_cases he : rd xs i = x
    · refine ⟨1, true, ?_, ⟨fun _ => ⟨i, Nat.le_refl _, by omega, he⟩, fun _ => rfl⟩⟩
      unfold antiquaryref27_has.l0; rw [if_pos (by omega), if_pos (by omega), if_pos he]
    · obtain ⟨k, r, h1, h2⟩ := ih (i + 1) (by omega)
      refine ⟨k + 1, r, ?_, ?_⟩
      · unfold antiquaryref27_has.l0; rw [if_pos (by omega), if_pos (by omega), if_neg he, w64 (by omega)]; exact h1
      · rw [h2]
        constructor
        · rintro ⟨q, h3, h4, h5⟩; exact ⟨q, by omega, h4, h5⟩
        · rintro ⟨q, h3, h4, h5⟩
          refine ⟨q, ?_, h4, h5⟩
          rcases Nat.lt_or_ge i q with h | h
          · omega
          · have : q = i := by omega
            subst this; exact absurd h5 he
theorem has_ex (xs : List Int) (x : Int) (hx : xs.length ≤ 4096) : ∃ k r, antiquaryref27_has.f k xs x = some r ∧ (r = true ↔ x ∈ xs) := by
  obtain ⟨k, r, h1, h2⟩ := has_loop xs x hx xs.length 0 (by omega)
  refine ⟨k, r, h1, h2.trans ?_⟩
  rw [mem_iff_rd]
  exact ⟨fun ⟨q, _, h3, h4⟩ => ⟨q, h3, h4⟩, fun ⟨q, h3, h4⟩ => ⟨q, Nat.zero_le _, h3, h4⟩⟩
theorem v27_l1 (n : Int) (g : List Hd) (i : Nat) (radius : Int) (xs : List Int) (hx : xs.length ≤ 4096) (hi : (i : Int) < 4611686018427387904) (b : Bool) (k0 : Nat) (h0 : antiquaryref27_Valid.l0 k0 n ((i : Int) + 1) g = some b) (d : Nat) : ∀ p : Nat, p + d = xs.length →
    ∃ k r, antiquaryref27_Valid.l1 k n i p g radius xs = some r ∧ (r = true ↔ (∀ q : Nat, p ≤ q → q < xs.length → okAt n xs q) ∧ b = true) := by
  induction d with
  | zero =>
    intro p hp
    refine ⟨k0 + 1, b, ?_, ?_⟩
    · unfold antiquaryref27_Valid.l1
      rw [if_neg (by omega), w64 (by omega)]
      exact h0
    · constructor
      · intro h; exact ⟨fun q h1 h2 => by omega, h⟩
      · exact fun h => h.2
  | succ d ih =>
    intro p hp
    by_cases c1 : rd xs p < 0
    · refine ⟨1, false, ?_, ?_⟩
      · unfold antiquaryref27_Valid.l1; rw [if_pos (by omega), if_pos (by omega), if_pos c1]
      · constructor
        · intro h; cases h
        · rintro ⟨h, _⟩; have := (h p (Nat.le_refl _) (by omega)).1; omega
    · by_cases c2 : rd xs p ≥ n
      · refine ⟨1, false, ?_, ?_⟩
        · unfold antiquaryref27_Valid.l1; rw [if_pos (by omega), if_pos (by omega), if_neg c1, if_pos c2]
        · constructor
          · intro h; cases h
          · rintro ⟨h, _⟩; have := (h p (Nat.le_refl _) (by omega)).2.1; omega
      · obtain ⟨k, r, h1, h2⟩ := ih (p + 1) (by omega)
        have hiff : ∀ hq : okAt n xs p, ((∀ q : Nat, p + 1 ≤ q → q < xs.length → okAt n xs q) ∧ b = true ↔ (∀ q : Nat, p ≤ q → q < xs.length → okAt n xs q) ∧ b = true) := by
          intro hq
          constructor
          · rintro ⟨h, hb⟩
            refine ⟨fun q h3 h4 => ?_, hb⟩
            rcases Nat.lt_or_ge p q with h5 | h5
            · exact h q h5 h4
            · have : q = p := by omega
              subst this; exact hq
          · rintro ⟨h, hb⟩; exact ⟨fun q h3 h4 => h q (by omega) h4, hb⟩
        by_cases c3 : (p : Int) > 0
        · by_cases c4 : rd xs p ≤ rd xs ((p : Int) - 1)
          · refine ⟨1, false, ?_, ?_⟩
            · unfold antiquaryref27_Valid.l1
              rw [if_pos (by omega), if_pos (by omega), if_neg c1, if_neg c2, if_pos c3, w64 (i := (p : Int) - 1) (by omega), if_pos (by omega), if_pos (by omega), if_pos c4]
            · constructor
              · intro h; cases h
              · rintro ⟨h, _⟩; have := (h p (Nat.le_refl _) (by omega)).2.2 (by omega); omega
          · refine ⟨k + 1, r, ?_, ?_⟩
            · unfold antiquaryref27_Valid.l1
              rw [if_pos (by omega), if_pos (by omega), if_neg c1, if_neg c2, if_pos c3, w64 (i := (p : Int) - 1) (by omega), if_pos (by omega), if_pos (by omega), if_neg c4, w64 (by omega)]
              exact h1
            · rw [h2]; exact hiff ⟨by omega, by omega, fun _ => by omega⟩
        · refine ⟨k + 1, r, ?_, ?_⟩
          · unfold antiquaryref27_Valid.l1
            rw [if_pos (by omega), if_pos (by omega), if_neg c1, if_neg c2, if_neg c3, w64 (by omega)]
            exact h1
          · rw [h2]; exact hiff ⟨by omega, by omega, fun _ => by omega⟩
theorem v27_l0 (g : List Hd) (hs : ∀ h ∈ g, h.f1.length ≤ 4096) (hl : g.length ≤ 4096) (n : Int) (hn : (g.length : Int) = n) (d : Nat) : ∀ i : Nat, i + d = g.length →
    ∃ k r, antiquaryref27_Valid.l0 k n i g = some r ∧ (r = true ↔ ∀ j : Nat, i ≤ j → j < g.length → hoodOk n j (rd_T39 g j)) := by
  induction d with
  | zero =>
    intro i hi
    refine ⟨1, true, ?_, ⟨fun _ j h1 h2 => by omega, fun _ => rfl⟩⟩
    unfold antiquaryref27_Valid.l0; rw [if_neg (by omega)]
  | succ d ih =>
    intro i hi
    obtain ⟨k0, b, h1, h2⟩ := ih (i + 1) (by omega)
    have hlen := hs _ (rd_T_mem (g := g) (i := (i : Int)) (by omega) (by omega))
    obtain ⟨k1, r1, h3, h4⟩ := v27_l1 n g i (rd_T39 g i).f0 (rd_T39 g i).f1 hlen (by omega) b k0 h1 (rd_T39 g i).f1.length 0 (by omega)
    obtain ⟨k2, r2, h5, h6⟩ := has_ex (rd_T39 g i).f1 i hlen
    have hsplit : (∀ j : Nat, i ≤ j → j < g.length → hoodOk n j (rd_T39 g j)) ↔ (hoodOk n i (rd_T39 g i) ∧ b = true) := by
      rw [h2]
      constructor
      · intro h; exact ⟨h i (Nat.le_refl _) (by omega), fun j h7 h8 => h j (by omega) h8⟩
      · rintro ⟨h7, h8⟩ j h9 h10
        rcases Nat.lt_or_ge i j with h11 | h11
        · exact h8 j h11 h10
        · have : j = i := by omega
          subst this; exact h7
    rw [hood_split] at hsplit
    by_cases c1 : (rd_T39 g i).f0 < 0
    · refine ⟨2, false, ?_, ?_⟩
      · unfold antiquaryref27_Valid.l0
        rw [if_pos (by omega), if_pos (by omega), if_pos (by omega), if_pos c1]; rfl
      · rw [hsplit]; exact ⟨fun h => (by cases h), fun h => absurd c1 h.1.1⟩
    · by_cases c2 : (rd_T39 g i).f0 > 134217728
      · refine ⟨2, false, ?_, ?_⟩
        · unfold antiquaryref27_Valid.l0
          rw [if_pos (by omega), if_pos (by omega), if_pos (by omega), if_neg c1, if_pos c2]; rfl
        · rw [hsplit]; exact ⟨fun h => (by cases h), fun h => absurd c2 h.1.2.1⟩
      · cases hr2 : r2 with
        | false =>
          refine ⟨k2 + 2, false, ?_, ?_⟩
          · unfold antiquaryref27_Valid.l0
            rw [if_pos (by omega), if_pos (by omega), if_pos (by omega), if_neg c1, if_neg c2, up_le (antiquaryref27_has.mono _ _) h5 (show k2 ≤ k2 + 1 by omega), hr2]; rfl
          · rw [hsplit]; exact ⟨fun h => (by cases h), fun h => by have := h6.2 h.1.2.2.1; rw [hr2] at this; cases this⟩
        | true =>
          refine ⟨k1 + k2 + 2, r1, ?_, ?_⟩
          · unfold antiquaryref27_Valid.l0
            rw [if_pos (by omega), if_pos (by omega), if_pos (by omega), if_neg c1, if_neg c2, up_le (antiquaryref27_has.mono _ _) h5 (show k2 ≤ k1 + k2 + 1 by omega), hr2]
            show antiquaryref27_Valid.j2 (k1 + k2 + 1) n i (!true) g _ _ = some r1
            unfold antiquaryref27_Valid.j2
            rw [if_neg (by simp)]
            exact up_le (f := fun k => antiquaryref27_Valid.l1 k n i 0 g (rd_T39 g i).f0 (rd_T39 g i).f1) (fun k => (antiquaryref27_Valid.mono_l k).2.2.2 _ _ _ _ _ _) h3 (by omega)
          · rw [h4, hsplit]
            constructor
            · rintro ⟨h7, h8⟩; exact ⟨⟨c1, c2, h6.1 hr2, h7⟩, h8⟩
            · rintro ⟨⟨_, _, _, h7⟩, h8⟩; exact ⟨h7, h8⟩
theorem valid27_ex (n : Int) (g : List Hd) (hs : ∀ h ∈ g, h.f1.length ≤ 4096) : ∃ k r, antiquaryref27_Valid.f k n g = some r ∧ (r = true ↔ ValidG n g) := by
  unfold ValidG
  by_cases c1 : n < 1
  · refine ⟨1, false, ?_, ⟨fun h => by (cases h), fun h => by omega⟩⟩
    unfold antiquaryref27_Valid.f; rw [if_pos c1]; rfl
  · by_cases c2 : n > 4096
    · refine ⟨1, false, ?_, ⟨fun h => by (cases h), fun h => by omega⟩⟩
      unfold antiquaryref27_Valid.f; rw [if_neg c1, if_pos c2]; rfl
    · by_cases c3 : (g.length : Int) = n
      · obtain ⟨k, r, h1, h2⟩ := v27_l0 g hs (by omega) n c3 g.length 0 (by omega)
        refine ⟨k + 1, r, ?_, ?_⟩
        · unfold antiquaryref27_Valid.f
          rw [if_neg c1, if_neg c2]
          have e : ((g.length : Int) != n) = false := by simp [c3]
          rw [e]
          show (if false = true then some false else antiquaryref27_Valid.l0 k n 0 g) = some r
          rw [if_neg (by simp)]
          exact h1
        · rw [h2]
          exact ⟨fun h => ⟨by omega, by omega, c3, fun j hj => h j (Nat.zero_le _) hj⟩, fun h j _ hj => h.2.2.2 j hj⟩
      · refine ⟨1, false, ?_, ⟨fun h => by (cases h), fun h => absurd h.2.2.1 c3⟩⟩
        unfold antiquaryref27_Valid.f; rw [if_neg c1, if_neg c2]
        have e : ((g.length : Int) != n) = true := by simp [c3]
        rw [e]; rfl
end Go.Proofs.Ythbkomkgciemiaa.PKM
