/- Texts of this claim, merged: part 4. -/
import Derived.Test.YthbkomkgciemiaaGreatCF3
import Derived.Laws.EntriesVeiled
import Derived.IntWalk
import Derived.RangeFuncRecord
import Derived.RangeFuncSeq
import Derived.RangeFuncCalls
import Derived.Below
import Derived.WalkKit
import Derived.RangeFuncNested
import Derived.RangeFuncBound
import Derived.RangeFuncLeaves
import Derived.Shelf.Abstract
import Derived.Shelf.RegionOpen
import Derived.OwnWalkIn
import Derived.TacticsInMore
import Derived.LoopNIn
import Derived.LoopIn
import Derived.Maps.AppendAt
import Derived.RangeFuncBox
namespace Go.Proofs.YthbkomkgciemiaaGreat.PKF
open Go.RowKit Go.Proofs.YthbkomkgciemiaaGreatW.PrintWords Go.Proofs.YthbkomkgciemiaaGreatW.PrintLast Go.Proofs.YthbkomkgciemiaaGreatW.PrintMore
attribute [local go_sem] max2_int min2_int max_two min_two max_three min_three max_four min_four   -- for this text's walks alone
set_option linter.unusedVariables false
set_option linter.unusedSimpArgs false
def vector_Alike.f (l0 : List Int) (l1 : List Int) : Option (Bool) := if (l0.length : Int) = (l1.length : Int) then ((vector_Valid.f l0).bind fun t239 => (if t239 = true then ((vector_Valid.f l1).bind fun t240 => (some t240)) else (some false))) else (some false)
set_option maxHeartbeats 8000000 in
set_option maxRecDepth 100000 in
theorem vector_Alike.calls (A0 : Option Addr) (c0 : Nat) (l0 : List Int) (A1 : Option Addr) (c1 : Nat) (l1 : List Int) (r : Bool) (w : World) (hr0 : Kd.C (Kd.int .i64) w A0 l0.length l0) (hc0 : l0.length ≤ c0) (hr1 : Kd.C (Kd.int .i64) w A1 l1.length l1) (hc1 : l1.length ≤ c1) (h : vector_Alike.f l0 l1 = some r) :
    Calls Tryz.prog 55 #[.slice A0 l0.length c0, .slice A1 l1.length c1] w fun e w' => e = .returned (.bool r) ∧ Drawn0 w w' := by
  have HR0 := Aside0.mk hr0
  have HC0 := Aside0.mk hc0
  clear hr0 hc0
  have HR1 := Aside0.mk hr1
  have HC1 := Aside0.mk hc1
  clear hr1 hc1
  have H : (if (l0.length : Int) = (l1.length : Int) then ((vector_Valid.f l0).bind fun t239 => (if t239 = true then ((vector_Valid.f l1).bind fun t240 => (some t240)) else (some false))) else (some false)) = some r := h
  clear h
  by_cases c3 : (l0.length : Int) = (l1.length : Int)
  · rw [if_pos c3] at H
    have c3b0 : ((l0.length : Int) == (l1.length : Int)) = true := beq_iff_eq.mpr c3
    have c3b1 : ((l0.length : Int) != (l1.length : Int)) = false := bne_eq_false_iff_eq.mpr c3
    have c3b2 : (l0.length == l1.length) = true := by first | simpa using c3 | (simp at c3 ⊢; omega)
    clear c3
    replace H := Option.bind_eq_some_iff.mp H
    obtain ⟨t239, A40, H⟩ := H
    replace H : (if t239 = true then ((vector_Valid.f l1).bind fun t240 => (some t240)) else (some false)) = some r := H
    have A4 := Aside0.mk A40
    clear A40
    by_cases c5 : t239 = true
    · subst c5
      have H1 : ((vector_Valid.f l1).bind fun t240 => (some t240)) = some r := by rw [if_pos rfl] at H; exact H
      clear H
      have H := H1
      clear H1
      replace H := Option.bind_eq_some_iff.mp H
      obtain ⟨t240, A60, H⟩ := H
      replace H : (some t240) = some r := H
      have A6 := Aside0.mk A60
      clear A60
      obtain rfl := Option.some.inj H
      go_enter Tryz.func55, Tryz.ntmps55
      go_wp2_with (first | (go_at_call 77; (with_reducible refine (vector_Valid.calls _ _ l0 true _ ?side1 ?side2 A4.out).mono ?_); (case side1 => repeat (first | exact HR0.out | (with_reducible refine Kd.C_alloc ?_ _) | (with_reducible refine Kd.C_drewN ?_ _) | (with_reducible refine Kd.C_drew ?_))); (case side2 => exact HC0.out); rintro e w' ⟨rfl, ⟨nd, rfl⟩⟩) | (go_at_call 77; (with_reducible refine (vector_Valid.calls _ _ l1 t240 _ ?side1 ?side2 A6.out).mono ?_); (case side1 => repeat (first | exact HR1.out | (with_reducible refine Kd.C_alloc ?_ _) | (with_reducible refine Kd.C_drewN ?_ _) | (with_reducible refine Kd.C_drew ?_))); (case side2 => exact HC1.out); rintro e w' ⟨rfl, ⟨nd, rfl⟩⟩))
      go_ret
      exact ⟨by first | rfl | (simp; done) | (simp [*]; done), by repeat (first | exact Drawn0.refl _ | apply Drawn0.step)⟩
    · replace c5 := Bool.eq_false_iff.mpr c5
      subst c5
      have H1 : (some false) = some r := by rw [if_neg (show ¬ (false = true) by decide)] at H; exact H
      clear H
      have H := H1
      clear H1
      obtain rfl := Option.some.inj H
      go_enter Tryz.func55, Tryz.ntmps55
      go_wp2_with (first | (go_at_call 77; (with_reducible refine (vector_Valid.calls _ _ l0 false _ ?side1 ?side2 A4.out).mono ?_); (case side1 => repeat (first | exact HR0.out | (with_reducible refine Kd.C_alloc ?_ _) | (with_reducible refine Kd.C_drewN ?_ _) | (with_reducible refine Kd.C_drew ?_))); (case side2 => exact HC0.out); rintro e w' ⟨rfl, ⟨nd, rfl⟩⟩))
      go_ret
      exact ⟨by first | rfl | (simp; done) | (simp [*]; done), by repeat (first | exact Drawn0.refl _ | apply Drawn0.step)⟩
  · rw [if_neg c3] at H
    have c3b0 : ((l0.length : Int) == (l1.length : Int)) = false := beq_eq_false_iff_ne.mpr c3
    have c3b1 : ((l0.length : Int) != (l1.length : Int)) = true := bne_iff_ne.mpr c3
    have c3b2 : (l0.length == l1.length) = false := by first | simpa using c3 | (simp at c3 ⊢; omega)
    obtain rfl := Option.some.inj H
    go_enter Tryz.func55, Tryz.ntmps55
    go_wp2
    go_ret
    exact ⟨by first | rfl | (simp; done) | (simp [*]; done), by repeat (first | exact Drawn0.refl _ | apply Drawn0.step)⟩
def metric_Isqrt.l0 : Nat → Int → Int → Option (Int)
  | 0, _, _ => none
  | k + 1, x0, x3 => if x3 = 0 then (none) else (if (wrap64 (Int.tdiv (wrap64 (x3 + (wrap64 (Int.tdiv x0 x3)))) 2)) ≥ x3 then (some x3) else (metric_Isqrt.l0 k x0 (wrap64 (Int.tdiv (wrap64 (x3 + (wrap64 (Int.tdiv x0 x3)))) 2))))
def metric_Isqrt.f (k : Nat) (a0 : Int) : Option (Int) := (metric_clamp_int.f a0 0 1152921504606846976).bind fun t241 => (if t241 = 0 then (some 0) else ((bits_Len.f (IntKind.u64.wrap (t241))).bind fun t242 => (if 0 ≤ (wrap64 (Int.tdiv (wrap64 (t242 + 1)) 2)) then (metric_Isqrt.l0 k t241 (shl .i64 1 (wrap64 (Int.tdiv (wrap64 (t242 + 1)) 2)))) else (none))))
theorem metric_Isqrt.mono_l : ∀ k, (∀ y0 y1, LeO (metric_Isqrt.l0 k y0 y1) (metric_Isqrt.l0 (k + 1) y0 y1))
  | 0 => fun _ _ r h => by simp [metric_Isqrt.l0] at h
  | k + 1 => by
    have ih0 := metric_Isqrt.mono_l k
    · intro y0 y1
      unfold metric_Isqrt.l0
      repeat' first
      | (with_reducible exact ih0 _ _)
      | (with_reducible exact LeO.refl _)
      | (with_reducible exact LeO.none _)
      | (with_reducible refine LeO.ite ?_ ?_)
      | (with_reducible refine LeO.bind ?_ (fun _ => ?_))
      | exact ih0 _ _
      | exact LeO.none _
      | refine LeO.ite ?_ ?_
      | refine LeO.bind ?_ (fun _ => ?_)
set_option maxHeartbeats 8000000 in
set_option maxRecDepth 100000 in
theorem metric_Isqrt.calls (k : Nat) (a0 : Int) (r : Int) (w : World) (h : metric_Isqrt.f k a0 = some r) :
    Calls Tryz.prog 101 #[.int .i64 a0] w fun e w' => e = .returned (.int .i64 r) ∧ Drawn0 w w' := by
  have H : ((metric_clamp_int.f a0 0 1152921504606846976).bind fun t241 => (if t241 = 0 then (some 0) else ((bits_Len.f (IntKind.u64.wrap (t241))).bind fun t242 => (if 0 ≤ (wrap64 (Int.tdiv (wrap64 (t242 + 1)) 2)) then (metric_Isqrt.l0 k t241 (shl .i64 1 (wrap64 (Int.tdiv (wrap64 (t242 + 1)) 2)))) else (none))))) = some r := h
  clear h
  replace H := Option.bind_eq_some_iff.mp H
  obtain ⟨t241, A20, H⟩ := H
  replace H : (if t241 = 0 then (some 0) else ((bits_Len.f (IntKind.u64.wrap (t241))).bind fun t242 => (if 0 ≤ (wrap64 (Int.tdiv (wrap64 (t242 + 1)) 2)) then (metric_Isqrt.l0 k t241 (shl .i64 1 (wrap64 (Int.tdiv (wrap64 (t242 + 1)) 2)))) else (none)))) = some r := H
  have A2 := Aside0.mk A20
  clear A20
  by_cases c3 : t241 = 0
  · rw [if_pos c3] at H
    have c3b0 : (t241 == 0) = true := beq_iff_eq.mpr c3
    have c3b1 : (t241 != 0) = false := bne_eq_false_iff_eq.mpr c3
    clear c3
    obtain rfl := Option.some.inj H
    go_enter Tryz.func101, Tryz.ntmps101
    go_wp2_with (first | ((with_reducible refine gate_callee (f := 84) rfl ?_); refine goesL_ (some 6) rfl rfl Tryz.func84 (by kernel_rfl) rfl #[.int .i64 a0, .int .i64 0, .int .i64 1152921504606846976] rfl (by (try simp only [List.map_toArray, List.map_cons, List.map_nil]); first | done | rfl | (simp only [List.length_drop, List.length_take]; rfl)) ?_; (with_reducible refine (metric_clamp_int.calls a0 0 1152921504606846976 t241 _ A2.out).mono ?_); rintro e w' ⟨rfl, ⟨nd, rfl⟩⟩; refine ⟨_, rfl, ?_⟩))
    go_ret
    exact ⟨by first | rfl | (simp; done) | (simp [*]; done), by repeat (first | exact Drawn0.refl _ | apply Drawn0.step)⟩
  · rw [if_neg c3] at H
    have c3b0 : (t241 == 0) = false := beq_eq_false_iff_ne.mpr c3
    have c3b1 : (t241 != 0) = true := bne_iff_ne.mpr c3
    replace H := Option.bind_eq_some_iff.mp H
    obtain ⟨t242, A40, H⟩ := H
    replace H : (if 0 ≤ (wrap64 (Int.tdiv (wrap64 (t242 + 1)) 2)) then (metric_Isqrt.l0 k t241 (shl .i64 1 (wrap64 (Int.tdiv (wrap64 (t242 + 1)) 2)))) else (none)) = some r := H
    have A4 := Aside0.mk A40
    clear A40
    obtain ⟨ji5, hji5⟩ : ∃ j_ : Int, (wrap64 (Int.tdiv (wrap64 (t242 + 1)) 2)) = j_ := ⟨_, rfl⟩
    replace H : (if 0 ≤ (ji5) then (metric_Isqrt.l0 k t241 (shl .i64 1 (ji5))) else (none)) = some r := by first | (rw [hji5] at H; exact H) | (simp only [hji5] at H ⊢; exact H)
    (try rw [hji5] at A2)
    (try rw [hji5] at A4)
    have hji5w : (IntKind.i64.wrap (Int.tdiv (wrap64 (t242 + 1)) 2)) = ji5 := (i64_w _).trans hji5
    by_cases c6 : 0 ≤ (ji5)
    · rw [if_pos c6] at H
      have c6b0 := eq_true c6
      have c6b1 : decide (0 ≤ (ji5)) = true := decide_eq_true c6
      clear c6
      obtain ⟨ji7, hji7⟩ : ∃ j_ : Int, (shl .i64 1 (ji5)) = j_ := ⟨_, rfl⟩
      replace H : (metric_Isqrt.l0 k t241 ji7) = some r := by first | (rw [hji7] at H; exact H) | (simp only [hji7] at H ⊢; exact H)
      (try rw [hji7] at A2)
      (try rw [hji7] at A4)
      have hji7_ : (IntKind.i64.wrap (1 * 2 ^ min (ji5).toNat 64)) = ji7 := hji7
      have hji7z : (ji5) ≤ 64 → (IntKind.i64.wrap (1 * 2 ^ (ji5).toNat)) = ji7 := shl_small hji7
      have hji7u : (IntKind.i64.wrap (2 ^ min (ji5).toNat 64)) = ji7 := by have h_ := hji7_; rw [Int.one_mul] at h_; exact h_
      have hji7v : (ji5) ≤ 64 → (IntKind.i64.wrap (2 ^ (ji5).toNat)) = ji7 := fun hle_ => by have h_ := hji7z hle_; rw [Int.one_mul] at h_; exact h_
      have hji7y : (wrap64 (1 * 2 ^ min (ji5).toNat 64)) = ji7 := (i64_w _).symm.trans hji7_
      have hji7x : (ji5) ≤ 64 → (wrap64 (1 * 2 ^ (ji5).toNat)) = ji7 := fun h_ => (i64_w _).symm.trans (hji7z h_)
      have H' := Aside0.mk H
      clear H
      go_enter Tryz.func101, Tryz.ntmps101
      go_wp2_with (first | ((with_reducible refine gate_callee (f := 84) rfl ?_); refine goesL_ (some 6) rfl rfl Tryz.func84 (by kernel_rfl) rfl #[.int .i64 a0, .int .i64 0, .int .i64 1152921504606846976] rfl (by (try simp only [List.map_toArray, List.map_cons, List.map_nil]); first | done | rfl | (simp only [List.length_drop, List.length_take]; rfl)) ?_; (with_reducible refine (metric_clamp_int.calls a0 0 1152921504606846976 t241 _ A2.out).mono ?_); rintro e w' ⟨rfl, ⟨nd, rfl⟩⟩; refine ⟨_, rfl, ?_⟩) | ((with_reducible refine gate_callee (f := 79) rfl ?_); refine goesL_ (some 11) rfl rfl Tryz.func79 (by kernel_rfl) rfl #[.int .u64 (IntKind.u64.wrap (t241))] rfl (by (try simp only [List.map_toArray, List.map_cons, List.map_nil]); first | done | rfl | (simp only [List.length_drop, List.length_take]; rfl)) ?_; (with_reducible refine (bits_Len.calls (IntKind.u64.wrap (t241)) t242 _ A4.out).mono ?_); rintro e w' ⟨rfl, ⟨nd, rfl⟩⟩; refine ⟨_, rfl, ?_⟩))
      go_loopg [3] k (fun kq v3 w' => ∃ (x3_1 : Int), v3 = .int .i64 x3_1 ∧ Aside0 (metric_Isqrt.l0 kq t241 x3_1 = some r) ∧ Aside0 (kq ≤ k) ∧ Drawn0 w w')
      case atStart => exact ⟨(ji7), (by first | rfl | (simp; done) | (simp only [← hji7] <;> (first | rfl | simp)) | (simp [*]; done)), H', ⟨Nat.le_refl _⟩, by repeat (first | exact Drawn0.refl _ | apply Drawn0.step)⟩
      case round =>
        clear H'
        try clear c1
        try clear p2
        try clear c3
        try clear c3b0
        try clear c3b1
        try clear c6
        try clear c6b0
        try clear c6b1
        try clear p6
        try clear c7
        obtain ⟨x3_1, rfl, HA, HK1, ⟨m1, rfl⟩⟩ := hrel
        cases gk with
        | zero => exact absurd HA.out (by simp [metric_Isqrt.l0])
        | succ k1 =>
          have H := HA.out
          clear HA
          simp only [metric_Isqrt.l0] at H
          by_cases c8 : x3_1 = 0
          · rw [if_pos c8] at H
            exact absurd H (by simp)
          · rw [if_neg c8] at H
            have c8b0 : (x3_1 == 0) = false := beq_eq_false_iff_ne.mpr c8
            have c8b1 : (x3_1 != 0) = true := bne_iff_ne.mpr c8
            by_cases c9 : (wrap64 (Int.tdiv (wrap64 (x3_1 + (wrap64 (Int.tdiv t241 x3_1)))) 2)) ≥ x3_1
            · rw [if_pos c9] at H
              have c9b0 : decide (x3_1 ≤ (wrap64 (Int.tdiv (wrap64 (x3_1 + (wrap64 (Int.tdiv t241 x3_1)))) 2))) = true := decide_eq_true c9
              clear c9
              obtain rfl := Option.some.inj H
              go_wp2
              go_ret
              exact ⟨by first | rfl | (simp; done) | (simp only [← hji5, ← hji7] <;> (first | rfl | simp)) | (simp [*]; done), by repeat (first | exact Drawn0.refl _ | apply Drawn0.step)⟩
            · rw [if_neg c9] at H
              have c9b0 : decide (x3_1 ≤ (wrap64 (Int.tdiv (wrap64 (x3_1 + (wrap64 (Int.tdiv t241 x3_1)))) 2))) = false := decide_eq_false c9
              clear c9
              have H' := Aside0.mk H
              clear H
              go_wp2
              go_roundg k1
              case measure => have := HK1.out; omega
              case rel => exact ⟨(wrap64 (Int.tdiv (wrap64 (x3_1 + (wrap64 (Int.tdiv t241 x3_1)))) 2)), (by first | rfl | (simp; done) | (simp [*]; done)), H', ⟨by have := HK1.out; omega⟩, by repeat (first | exact Drawn0.refl _ | apply Drawn0.step)⟩
    · rw [if_neg c6] at H
      exact absurd H (by simp)
def vector_Sub.l0 : Nat → List Int → List Int → Int → Int → Option (List Int)
  | 0, _, _, _, _ => none
  | k + 1, x1, x5, x10, x11 => if x11 < x10 then (if 0 ≤ x11 then (if x11 < (x5.length : Int) then (if x11 < (x1.length : Int) then (vector_Sub.l0 k x1 (x5.set (x11 : Int).toNat (wrap64 ((rd x5 x11) - (rd x1 x11)))) x10 (wrap64 (x11 + 1))) else (none)) else (none)) else (none)) else (some x5)
def vector_Sub.f (k : Nat) (l0 : List Int) (l1 : List Int) : Option (List Int) := (slices_Clone_int_int.f l0).bind fun t243 => (vector_Sub.l0 k l1 t243 (t243.length : Int) 0)
theorem vector_Sub.mono_l : ∀ k, (∀ y0 y1 y2 y3, LeO (vector_Sub.l0 k y0 y1 y2 y3) (vector_Sub.l0 (k + 1) y0 y1 y2 y3))
  | 0 => fun _ _ _ _ r h => by simp [vector_Sub.l0] at h
  | k + 1 => by
    have ih0 := vector_Sub.mono_l k
    · intro y0 y1 y2 y3
      unfold vector_Sub.l0
      repeat' first
      | (with_reducible exact ih0 _ _ _ _)
      | (with_reducible exact LeO.refl _)
      | (with_reducible exact LeO.none _)
      | (with_reducible refine LeO.ite ?_ ?_)
      | (with_reducible refine LeO.bind ?_ (fun _ => ?_))
      | exact ih0 _ _ _ _
      | exact LeO.none _
      | refine LeO.ite ?_ ?_
      | refine LeO.bind ?_ (fun _ => ?_)
theorem vector_Sub.mono : ∀ a0 a1 k, LeO (vector_Sub.f k a0 a1) (vector_Sub.f (k + 1) a0 a1) := by
  intro a0 a1 k
  have ih0 := vector_Sub.mono_l k
  unfold vector_Sub.f
  repeat' first
      | (with_reducible exact ih0 _ _ _ _)
      | (with_reducible exact LeO.refl _)
      | (with_reducible exact LeO.none _)
      | (with_reducible refine LeO.ite ?_ ?_)
      | (with_reducible refine LeO.bind ?_ (fun _ => ?_))
      | exact ih0 _ _ _ _
      | exact LeO.none _
      | refine LeO.ite ?_ ?_
      | refine LeO.bind ?_ (fun _ => ?_)
def vector_Sub.T5 : Bool × List (List Nat × List Nat) := (true, [([], []), ([], []), ([0, 1], [0, 1]), ([2], [2]), ([], []), ([], []), ([4, 5], [4, 5]), ([6], [6]), ([3, 7], [3, 7]), ([0, 1, 0, 1, 2, 3, 4, 5, 6, 7, 8], [0, 1]), ([9, 8, 0, 1, 2, 3, 4, 5, 6, 7, 8], [8, 9])])
def vector_Sub.B5 : List Nat := [0, 0, 3, 7, 0, 0, 48, 112, 255, 511, 1023]
theorem vector_Sub.tab5 : rtab .any (opsOf Tryz.f54 5) = vector_Sub.T5 := by kernel_rfl
theorem vector_Sub.bits5 : waitsOk vector_Sub.T5.2 vector_Sub.B5 = true := by kernel_rfl
set_option maxHeartbeats 8000000 in
set_option maxRecDepth 100000 in
theorem vector_Sub.calls (k : Nat) (A0 : Option Addr) (c0 : Nat) (l0 : List Int) (A1 : Option Addr) (c1 : Nat) (l1 : List Int) (r : List Int) (w : World) (hr0 : Kd.C (Kd.int .i64) w A0 l0.length l0) (hc0 : l0.length ≤ c0) (hr1 : Kd.C (Kd.int .i64) w A1 l1.length l1) (hc1 : l1.length ≤ c1) (h : vector_Sub.f k l0 l1 = some r) :
    Calls Tryz.prog 54 #[.slice A0 l0.length c0, .slice A1 l1.length c1] w fun e w' => ∃ v0_ : Value, e = .returned (v0_) ∧ Kd.R (Kd.int .i64) 3 w' w.heap.size (fun _ => True) v0_ r ∧ Below w.heap.size w w' := by
  have HR0 := Aside0.mk hr0
  have HC0 := Aside0.mk hc0
  clear hr0 hc0
  have HR1 := Aside0.mk hr1
  have HC1 := Aside0.mk hc1
  clear hr1 hc1
  have HB := Aside0.mk (Below.refl w.heap.size w)
  have H : ((slices_Clone_int_int.f l0).bind fun t243 => (vector_Sub.l0 k l1 t243 (t243.length : Int) 0)) = some r := h
  clear h
  replace H := Option.bind_eq_some_iff.mp H
  obtain ⟨t243, A30, H⟩ := H
  replace H : (vector_Sub.l0 k l1 t243 (t243.length : Int) 0) = some r := H
  have A3 := Aside0.mk A30
  clear A30
  have H' := Aside0.mk H
  clear H
  go_enter Tryz.func54, Tryz.ntmps54
  go_wp2_with (first | ((with_reducible refine gate_callee (f := 35) rfl ?_); refine goesL_ (some 8) rfl rfl Tryz.func35 (by kernel_rfl) rfl #[.slice A0 l0.length c0] rfl (by (try simp only [List.map_toArray, List.map_cons, List.map_nil]); first | done | rfl | (simp only [List.length_drop, List.length_take]; rfl)) ?_; (with_reducible refine (slices_Clone_int_int.calls _ _ l0 t243 _ ?side1 ?side2 A3.out).mono ?_); (case side1 => repeat (first | exact HR0.out | (with_reducible refine Kd.C_alloc ?_ _) | (with_reducible refine Kd.C_drewN ?_ _) | (with_reducible refine Kd.C_drew ?_))); (case side2 => exact HC0.out); rintro e w4 ⟨v244, rfl, ho0, hb⟩; refine ⟨_, rfl, ?_⟩; have n0_ := Aside0.mk (Kd.R_lower ho0 (below_size (by repeat (first | (with_reducible first | exact HB.out | apply below_alloc | apply pw_below_drewN | apply below_drew1) | exact HB.out)))); have n1_ := Aside0.mk (below_step (by repeat (first | (with_reducible first | exact HB.out | apply below_alloc | apply pw_below_drewN | apply below_drew1) | exact HB.out)) hb); clear HB; have HO245 := n0_; have HB := n1_; clear n0_ n1_; (try clear hb); (try clear hb2); (try clear hk); (try clear hi); (try clear ho0); obtain ⟨Ao5, co5, eo5⟩ := Kd.R_slice HO245.out; subst eo5))
  go_loopg [11] k (fun kq v11 w' => ∃ (x5_1 : List Int) (x11_1 : Int), v11 = .int .i64 x11_1 ∧ Aside0 (vector_Sub.l0 kq l1 x5_1 (t243.length : Int) x11_1 = some r) ∧ Aside0 (kq ≤ k) ∧ Aside0 (Kd.R (Kd.int .i64) 3 w' w.heap.size (fun _ => True) (.slice Ao5 t243.length co5) x5_1) ∧ Aside0 (Below w.heap.size w w'))
  case atStart => exact ⟨(t243), (0), (by first | rfl | (simp; done) | (simp [*]; done)), H', ⟨Nat.le_refl _⟩, ⟨by (with_reducible repeat (first | apply Kd.R_alloc | apply Kd.R_drewN | apply Kd.R_drew)); exact HO245.out⟩, ⟨by repeat (first | (with_reducible first | exact HB.out | apply below_alloc | apply pw_below_drewN | apply below_drew1) | exact HB.out)⟩⟩
  case round =>
    clear H'
    try clear c1
    try clear p2
    try clear c3
    try clear c5
    obtain ⟨x5_1, x11_1, rfl, HA, HK1, HO_5, HB⟩ := hrel
    have hl5_1 := (Kd.R_reads' HO_5.out).1
    rw [hl5_1] at HO_5
    (try simp only [hl5_1])
    cases gk with
    | zero => exact absurd HA.out (by simp [vector_Sub.l0])
    | succ k1 =>
      have H := HA.out
      clear HA
      simp only [vector_Sub.l0] at H
      by_cases c6 : x11_1 < (t243.length : Int)
      · rw [if_pos c6] at H
        have c6b0 : decide (x11_1 < (t243.length : Int)) = true := decide_eq_true c6
        clear c6
        by_cases c7 : 0 ≤ x11_1
        · rw [if_pos c7] at H
          have c7b0 : decide (0 ≤ x11_1) = true := decide_eq_true c7
          clear c7
          by_cases c8 : x11_1 < (x5_1.length : Int)
          · rw [if_pos c8] at H
            have c8b0 : decide (x11_1 < (x5_1.length : Int)) = true := decide_eq_true c8
            clear c8
            by_cases c9 : x11_1 < (l1.length : Int)
            · rw [if_pos c9] at H
              have c9b0 : decide (x11_1 < (l1.length : Int)) = true := decide_eq_true c9
              clear c9
              obtain ⟨y248, hy248⟩ : ∃ y_ : List Int, y_ = (x5_1.set (x11_1 : Int).toNat (wrap64 ((rd x5_1 x11_1) - (rd l1 x11_1)))) := ⟨_, rfl⟩
              replace H : (vector_Sub.l0 k1 l1 y248 (t243.length : Int) (wrap64 (x11_1 + 1))) = some r := by first | (rw [hy248]; with_reducible exact H) | (have H2_ := (Option.bind_some _ _).symm.trans H; rw [hy248]; with_reducible exact H2_) | (have H2_ := (Option.bind_some _ _).symm.trans H; with_reducible exact H2_) | with_reducible exact H | (rw [hy248]; exact H) | exact H
              have Ny248 := Aside0.mk hy248
              clear hy248
              have H' := Aside0.mk H
              clear H
              try go_wp2
              have n0_ := Aside0.mk (Kd.R_drew HO_5.out)
              have n1_ := Aside0.mk (below_drew1 HB.out)
              clear HO_5
              clear HB
              have HO_5 := n0_
              have HB := n1_
              clear n0_ n1_
              have p246 : 0 ≤ (x11_1 : Int) := of_decide_eq_true (by first | (with_reducible assumption) | assumption)
              have q246 : x11_1 < (x5_1.length : Int) := of_decide_eq_true (by first | (with_reducible assumption) | assumption)
              obtain ⟨ad246, e246, hx246_0⟩ := Kd.at_int (Kd.R_reads' HO_5.out).2.2 x11_1 p246 q246
              cases e246
              replace p246 := eq_true p246
              replace q246 := eq_true q246
              have p247 : 0 ≤ (x11_1 : Int) := of_decide_eq_true (by first | (with_reducible assumption) | assumption)
              have q247 : x11_1 < (l1.length : Int) := of_decide_eq_true (by first | (with_reducible assumption) | assumption)
              obtain ⟨ad247, e247, hx247_0⟩ := Kd.at_int HR1.out x11_1 p247 q247
              have hw247_0 := hx247_0
              cases e247
              replace hx247_0 := (HB.out.cell (World.block_lt_of_cell? w _ hx247_0)).trans hx247_0
              replace p247 := eq_true p247
              replace q247 := eq_true q247
              have p10 : 0 ≤ (x11_1 : Int) := of_decide_eq_true (by first | (with_reducible assumption) | assumption)
              have q10 : (x11_1 : Int) < ((x5_1.length : Int) : Int) := of_decide_eq_true (by first | (with_reducible assumption) | assumption)
              obtain ⟨go10, co10, eo10, gb10, gl10, cl10, HG10⟩ := Kd.R_form HO_5.out (by omega)
              (first | cases eo10 | (injection eo10 with ea_ en_ ec_; (first | subst ea_ | (injection ea_ with ea_; subst ea_)); subst ec_; clear en_))
              have GB10 := Aside0.mk gb10
              have GG10 := Aside0.mk HG10
              clear gb10 gl10 HG10
              (first | simp only [add_plain] at hx246_0 | skip)
              obtain ⟨hx10_0, hf10_0⟩ := Kd.R_celln 0 HO_5.out (x11_1 : Int) p10 q10
              replace p10 := eq_true p10
              replace q10 := eq_true q10
              have HP12 := Kd.R_putn HO_5.out (x11_1 : Int) (wrap64 ((rd x5_1 x11_1) - (rd l1 x11_1)))
              rw [← Ny248.out] at HP12
              have HQ12 := Aside0.mk HP12
              clear HP12
              refine start_ (n := 11) (S := fun w' => w'.cell? ⟨go10, (x11_1).toNat, none⟩ = some (.int .i64 (rd x5_1 x11_1)) ∧ w'.cell? (ad247.add (x11_1).toNat) = some (.int .i64 (rd l1 x11_1))) (ds := [10]) #[false, false, false, false, false, false, false, false, false, false, false] (by kernel_rfl) rfl rfl ⟨hx246_0, ((HB.out.cell (World.block_lt_of_cell? w _ hw247_0)).trans hw247_0)⟩ (fun hHeld => ?_); refine with_tabW vector_Sub.tab5 vector_Sub.bits5 (fun HT_ HW_ => ?_)
              generalize wr.drew = w11 at HO_5 HB GG10 HQ12 hf10_0 hx10_0 hx246_0 hx247_0 hHeld ⊢
              refine pure_ (i := 0) (N := some 14) (v := ?_) (a' := ?_) #[true, false, false, false, false, false, false, false, false, false, false] rfl rfl (any_of HT_.out (by kernel_rfl)) (fun _ _ _ h => h) (Or.inl ⟨by rfl, ?_⟩) ?_ ?_
              rotate_left
              · intro w'
                go_simp
                with_reducible rfl
              rotate_left
              · simp only [Act.put, List.setIfInBounds_toArray, List.set_cons_zero, List.set_cons_succ, i64_w, i32_w]
                rfl
              refine pure_ (i := 1) (N := some 15) (v := ?_) (a' := ?_) #[true, true, false, false, false, false, false, false, false, false, false] rfl rfl (any_of HT_.out (by kernel_rfl)) (fun _ _ _ h => h) (Or.inl ⟨by rfl, ?_⟩) ?_ ?_
              rotate_left
              · intro w'
                go_simp
                with_reducible rfl
              rotate_left
              · simp only [Act.put, List.setIfInBounds_toArray, List.set_cons_zero, List.set_cons_succ, i64_w, i32_w]
                rfl
              refine pure_ (i := 2) (N := some 16) (v := ?_) (a' := ?_) #[true, true, true, false, false, false, false, false, false, false, false] rfl rfl (any_of HT_.out (by kernel_rfl)) (fun _ _ _ h => h) (Or.inl ⟨by rfl, ?_⟩) ?_ ?_
              rotate_left
              · intro w'
                go_simp
                with_reducible rfl
              rotate_left
              · simp only [Act.put, List.setIfInBounds_toArray, List.set_cons_zero, List.set_cons_succ, i64_w, i32_w]
                rfl
              refine pure_ (i := 4) (N := some 18) (v := ?_) (a' := ?_) #[true, true, true, false, true, false, false, false, false, false, false] rfl rfl (any_of HT_.out (by kernel_rfl)) (fun _ _ _ h => h) (Or.inl ⟨by rfl, ?_⟩) ?_ ?_
              rotate_left
              · intro w'
                go_simp
                with_reducible rfl
              rotate_left
              · simp only [Act.put, List.setIfInBounds_toArray, List.set_cons_zero, List.set_cons_succ, i64_w, i32_w]
                rfl
              refine pure_ (i := 5) (N := some 19) (v := ?_) (a' := ?_) #[true, true, true, false, true, true, false, false, false, false, false] rfl rfl (any_of HT_.out (by kernel_rfl)) (fun _ _ _ h => h) (Or.inl ⟨by rfl, ?_⟩) ?_ ?_
              rotate_left
              · intro w'
                go_simp
                with_reducible rfl
              rotate_left
              · simp only [Act.put, List.setIfInBounds_toArray, List.set_cons_zero, List.set_cons_succ, i64_w, i32_w]
                rfl
              refine pure_ (i := 6) (N := some 20) (v := ?_) (a' := ?_) #[true, true, true, false, true, true, true, false, false, false, false] rfl rfl (any_of HT_.out (by kernel_rfl)) (fun _ _ _ h => h) (Or.inl ⟨by rfl, ?_⟩) ?_ ?_
              rotate_left
              · intro w'
                go_simp
                with_reducible rfl
              rotate_left
              · simp only [Act.put, List.setIfInBounds_toArray, List.set_cons_zero, List.set_cons_succ, i64_w, i32_w]
                rfl
              refine take_ (i := 3) (N := some 17) (v := ?_) (a' := ?_) #[true, true, true, true, true, true, true, false, false, false, false] rfl rfl (take_ofW HT_.out HW_.out (by kernel_rfl)) (fun _ _ _ h => h) (Or.inl ⟨by rfl, ?_⟩) hHeld ?_ ?_
              rotate_left
              · rintro w' ⟨s0, s1⟩
                go_simp
                with_reducible rfl
              rotate_left
              · simp only [Act.put, List.setIfInBounds_toArray, List.set_cons_zero, List.set_cons_succ, i64_w, i32_w]
                rfl
              refine take_ (i := 7) (N := some 21) (v := ?_) (a' := ?_) #[true, true, true, true, true, true, true, true, false, false, false] rfl rfl (take_ofW HT_.out HW_.out (by kernel_rfl)) (fun _ _ _ h => h) (Or.inl ⟨by rfl, ?_⟩) hHeld ?_ ?_
              rotate_left
              · rintro w' ⟨s0, s1⟩
                go_simp
                with_reducible rfl
              rotate_left
              · simp only [Act.put, List.setIfInBounds_toArray, List.set_cons_zero, List.set_cons_succ, i64_w, i32_w]
                rfl
              refine pure_ (i := 8) (N := some 22) (v := ?_) (a' := ?_) #[true, true, true, true, true, true, true, true, true, false, false] rfl rfl (any_of HT_.out (by kernel_rfl)) (fun _ _ _ h => h) (Or.inl ⟨by rfl, ?_⟩) ?_ ?_
              rotate_left
              · intro w'
                go_simp
                with_reducible rfl
              rotate_left
              · simp only [Act.put, List.setIfInBounds_toArray, List.set_cons_zero, List.set_cons_succ, i64_w, i32_w]
                rfl
              refine pure_ (i := 9) (N := some 23) (v := ?_) (a' := ?_) #[true, true, true, true, true, true, true, true, true, true, false] rfl rfl (any_of HT_.out (by kernel_rfl)) (fun _ _ _ h => h) (Or.inl ⟨by rfl, ?_⟩) ?_ ?_
              rotate_left
              · intro w'
                go_simp
                with_reducible rfl
              rotate_left
              · simp only [Act.put, List.setIfInBounds_toArray, List.set_cons_zero, List.set_cons_succ, i64_w, i32_w]
                rfl
              refine last_ (i := 10) (N := none) #[true, true, true, true, true, true, true, true, true, true, true] rfl rfl (one_of HT_.out (by kernel_rfl)) (by decide) (fun K hK => ?_)
              refine skip_ (w1 := ?_) (by rfl) rfl ?_ ?_
              rotate_left
              · go_simp
                rfl
              refine hK.out _ _ ?_
              clear hK K
              refine done_ (done_of HT_.out (by kernel_rfl)) ?_
              try go_wp2
              (try simp only [← hl5_1])
              go_roundg k1
              case measure => have := HK1.out; omega
              case rel => exact ⟨(y248), (wrap64 (x11_1 + 1)), (by first | rfl | (simp; done) | (simp [*]; done)), H', ⟨by have := HK1.out; omega⟩, ⟨by (try simp only [hl5_1]); (with_reducible repeat (first | apply Kd.R_alloc | apply Kd.R_drewN | apply Kd.R_drew)); exact HQ12.out⟩, ⟨by repeat (first | (with_reducible first | exact HB.out | apply below_alloc | apply pw_below_drewN | apply below_drew1 | refine below_set ?_ GB10.out) | exact HB.out)⟩⟩
            · rw [if_neg c9] at H
              exact absurd H (by simp)
          · rw [if_neg c8] at H
            exact absurd H (by simp)
        · rw [if_neg c7] at H
          exact absurd H (by simp)
      · rw [if_neg c6] at H
        have c6b0 : decide (x11_1 < (t243.length : Int)) = false := decide_eq_false c6
        rw [hl5_1] at c6b0
        clear c6
        obtain rfl := Option.some.inj H
        go_wp2
        go_ret
        exact ⟨_, by first | rfl | (simp [errW_none, errW_some] <;> rfl) | (simp [*, errW_none, errW_some] <;> rfl), by (with_reducible repeat (first | apply Kd.R_alloc | apply Kd.R_drewN | apply Kd.R_drew)); exact HO_5.out, by repeat (first | (with_reducible first | exact HB.out | apply below_alloc | apply pw_below_drewN | apply below_drew1) | exact HB.out)⟩
def vector_Key.f (k : Nat) (a0 : Int) (l1 : List Int) (l2 : List Int) : Option (Int) := (vector_Sub.f k l1 l2).bind fun t249 => ((vector_Norm.f a0 t249).bind fun t252 => (some t252))
theorem vector_Key.mono : ∀ a0 a1 a2 k, LeO (vector_Key.f k a0 a1 a2) (vector_Key.f (k + 1) a0 a1 a2) := by
  intro a0 a1 a2 k
  unfold vector_Key.f
  repeat' first
      | (with_reducible exact vector_Sub.mono _ _ _)
      | (with_reducible exact LeO.refl _)
      | (with_reducible exact LeO.none _)
      | (with_reducible refine LeO.ite ?_ ?_)
      | (with_reducible refine LeO.bind ?_ (fun _ => ?_))
      | exact vector_Sub.mono _ _ _
      | exact LeO.none _
      | refine LeO.ite ?_ ?_
      | refine LeO.bind ?_ (fun _ => ?_)
set_option maxHeartbeats 8000000 in
set_option maxRecDepth 100000 in
theorem vector_Key.calls (k : Nat) (a0 : Int) (A1 : Option Addr) (c1 : Nat) (l1 : List Int) (A2 : Option Addr) (c2 : Nat) (l2 : List Int) (r : Int) (w : World) (hr1 : Kd.C (Kd.int .i64) w A1 l1.length l1) (hc1 : l1.length ≤ c1) (hr2 : Kd.C (Kd.int .i64) w A2 l2.length l2) (hc2 : l2.length ≤ c2) (h : vector_Key.f k a0 l1 l2 = some r) :
    Calls Tryz.prog 28 #[.int .i64 a0, .slice A1 l1.length c1, .slice A2 l2.length c2] w fun e w' => e = .returned (.int .i64 r) ∧ Below w.heap.size w w' := by
  have HR1 := Aside0.mk hr1
  have HC1 := Aside0.mk hc1
  clear hr1 hc1
  have HR2 := Aside0.mk hr2
  have HC2 := Aside0.mk hc2
  clear hr2 hc2
  have HB := Aside0.mk (Below.refl w.heap.size w)
  have H : ((vector_Sub.f k l1 l2).bind fun t249 => ((vector_Norm.f a0 t249).bind fun t252 => (some t252))) = some r := h
  clear h
  replace H := Option.bind_eq_some_iff.mp H
  obtain ⟨t249, A40, H⟩ := H
  replace H : ((vector_Norm.f a0 t249).bind fun t252 => (some t252)) = some r := H
  have A4 := Aside0.mk A40
  clear A40
  replace H := Option.bind_eq_some_iff.mp H
  obtain ⟨t252, A50, H⟩ := H
  replace H : (some t252) = some r := H
  have A5 := Aside0.mk A50
  clear A50
  obtain rfl := Option.some.inj H
  go_enter Tryz.func28, Tryz.ntmps28
  go_wp2_with (first | ((with_reducible refine gate_callee (f := 54) rfl ?_); refine goesL_ (some 10) rfl rfl Tryz.func54 (by kernel_rfl) rfl #[.slice A1 l1.length c1, .slice A2 l2.length c2] rfl (by (try simp only [List.map_toArray, List.map_cons, List.map_nil]); first | done | rfl | (simp only [List.length_drop, List.length_take]; rfl)) ?_; (with_reducible refine (vector_Sub.calls k _ _ l1 _ _ l2 t249 _ ?side1 ?side2 ?side3 ?side4 A4.out).mono ?_); (case side1 => repeat (first | exact HR1.out | (with_reducible refine Kd.C_alloc ?_ _) | (with_reducible refine Kd.C_drewN ?_ _) | (with_reducible refine Kd.C_drew ?_))); (case side2 => exact HC1.out); (case side3 => repeat (first | exact HR2.out | (with_reducible refine Kd.C_alloc ?_ _) | (with_reducible refine Kd.C_drewN ?_ _) | (with_reducible refine Kd.C_drew ?_))); (case side4 => exact HC2.out); rintro e w6 ⟨v250, rfl, ho0, hb⟩; refine ⟨_, rfl, ?_⟩; have n0_ := Aside0.mk (Kd.R_lower ho0 (below_size (by repeat (first | (with_reducible first | exact HB.out | apply below_alloc | apply pw_below_drewN | apply below_drew1) | exact HB.out)))); have n1_ := Aside0.mk (below_step (by repeat (first | (with_reducible first | exact HB.out | apply below_alloc | apply pw_below_drewN | apply below_drew1) | exact HB.out)) hb); clear HB; have HO251 := n0_; have HB := n1_; clear n0_ n1_; (try clear hb); (try clear hb2); (try clear hk); (try clear hi); (try clear ho0); obtain ⟨Ao7, co7, eo7⟩ := Kd.R_slice HO251.out; subst eo7) | ((with_reducible refine gate_callee (f := 53) rfl ?_); refine goesL_ (some 11) rfl rfl Tryz.func53 (by kernel_rfl) rfl #[.int .i64 a0, .slice Ao7 t249.length co7] rfl (by (try simp only [List.map_toArray, List.map_cons, List.map_nil]); first | done | rfl | (simp only [List.length_drop, List.length_take]; rfl)) ?_; (with_reducible refine (vector_Norm.calls a0 _ _ t249 t252 _ ?side1 ?side2 A5.out).mono ?_); (case side1 => repeat (first | exact (Kd.R_reads' HO251.out).2.2 | (with_reducible refine Kd.C_alloc ?_ _) | (with_reducible refine Kd.C_drewN ?_ _) | (with_reducible refine Kd.C_drew ?_))); (case side2 => exact (Kd.R_reads' HO251.out).2.1); rintro e w8 ⟨rfl, hb⟩; refine ⟨_, rfl, ?_⟩; have n0_ := Aside0.mk (Kd.R_below (by (with_reducible repeat (first | apply Kd.R_alloc | apply Kd.R_drewN | apply Kd.R_drew)); exact HO251.out) hb); have n1_ := Aside0.mk (below_step (by repeat (first | (with_reducible first | exact HB.out | apply below_alloc | apply pw_below_drewN | apply below_drew1) | exact HB.out)) hb); clear HO251; clear HB; have HO251 := n0_; have HB := n1_; clear n0_ n1_; (try clear hb); (try clear hb2); (try clear hk); (try clear hi)))
  go_ret
  exact ⟨by first | rfl | (simp [errW_none, errW_some] <;> rfl) | (simp [*, errW_none, errW_some] <;> rfl), by repeat (first | (with_reducible first | exact HB.out | apply below_alloc | apply pw_below_drewN | apply below_drew1) | exact HB.out)⟩
def graph_space_keys.l0 : Nat → List Int → List Int → List (List Int) → Int → Int → Int → List (List Int) → Option (List Int)
  | 0, _, _, _, _, _, _, _ => none
  | k + 1, x1, x5, x9, x10, x11, x254000, x254001 => if x11 < x10 then (if 0 ≤ x11 then (if x11 < (x9.length : Int) then ((vector_Key.f k x254000 (rd_L1 x9 x11) x1).bind fun t255 => (if x5.length < 17592186044416 then (graph_space_keys.l0 k x1 (x5 ++ [t255]) x9 x10 (wrap64 (x11 + 1)) x254000 x254001) else (none))) else (none)) else (none)) else (some x5)
def graph_space_keys.f (k : Nat) (a0_0 : Int) (l0_1 : List (List Int)) (l1 : List Int) : Option (List Int) := graph_space_keys.l0 k l1 ([] : List Int) l0_1 (l0_1.length : Int) 0 a0_0 l0_1
theorem graph_space_keys.mono_l : ∀ k, (∀ y0 y1 y2 y3 y4 y5 y6, LeO (graph_space_keys.l0 k y0 y1 y2 y3 y4 y5 y6) (graph_space_keys.l0 (k + 1) y0 y1 y2 y3 y4 y5 y6))
  | 0 => fun _ _ _ _ _ _ _ r h => by simp [graph_space_keys.l0] at h
  | k + 1 => by
    have ih0 := graph_space_keys.mono_l k
    · intro y0 y1 y2 y3 y4 y5 y6
      unfold graph_space_keys.l0
      repeat' first
      | (with_reducible exact ih0 _ _ _ _ _ _ _)
      | (with_reducible exact vector_Key.mono _ _ _ _)
      | (with_reducible exact LeO.refl _)
      | (with_reducible exact LeO.none _)
      | (with_reducible refine LeO.ite ?_ ?_)
      | (with_reducible refine LeO.bind ?_ (fun _ => ?_))
      | exact ih0 _ _ _ _ _ _ _
      | exact vector_Key.mono _ _ _ _
      | exact LeO.none _
      | refine LeO.ite ?_ ?_
      | refine LeO.bind ?_ (fun _ => ?_)
theorem graph_space_keys.mono : ∀ a0 a1 a2 k, LeO (graph_space_keys.f k a0 a1 a2) (graph_space_keys.f (k + 1) a0 a1 a2) := by
  intro a0 a1 a2 k
  have ih0 := graph_space_keys.mono_l k
  unfold graph_space_keys.f
  repeat' first
      | (with_reducible exact ih0 _ _ _ _ _ _ _)
      | (with_reducible exact vector_Key.mono _ _ _ _)
      | (with_reducible exact LeO.refl _)
      | (with_reducible exact LeO.none _)
      | (with_reducible refine LeO.ite ?_ ?_)
      | (with_reducible refine LeO.bind ?_ (fun _ => ?_))
      | exact ih0 _ _ _ _ _ _ _
      | exact vector_Key.mono _ _ _ _
      | exact LeO.none _
      | refine LeO.ite ?_ ?_
      | refine LeO.bind ?_ (fun _ => ?_)
set_option maxHeartbeats 8000000 in
set_option maxRecDepth 100000 in
theorem graph_space_keys.calls (k : Nat) (a0_0 : Int) (A0_1 : Option Addr) (c0_1 : Nat) (l0_1 : List (List Int)) (A1 : Option Addr) (c1 : Nat) (l1 : List Int) (r : List Int) (w : World) (hr0_1 : Kd.C (Kd.slice 3 (Kd.int .i64)) w A0_1 l0_1.length l0_1) (hc0_1 : l0_1.length ≤ c0_1) (hr1 : Kd.C (Kd.int .i64) w A1 l1.length l1) (hc1 : l1.length ≤ c1) (h : graph_space_keys.f k a0_0 l0_1 l1 = some r) :
    Calls Tryz.prog 43 #[.agg #[.int .i64 a0_0, .slice A0_1 l0_1.length c0_1], .slice A1 l1.length c1] w fun e w' => ∃ v0_ : Value, e = .returned (v0_) ∧ Kd.R (Kd.int .i64) 3 w' w.heap.size (fun _ => True) v0_ r ∧ Below w.heap.size w w' := by
  have hu63 := Tryz.underlying63
  have HR0_1 := Aside0.mk hr0_1
  have HC0_1 := Aside0.mk hc0_1
  clear hr0_1 hc0_1
  have HR1 := Aside0.mk hr1
  have HC1 := Aside0.mk hc1
  clear hr1 hc1
  have HB := Aside0.mk (Below.refl w.heap.size w)
  have H : (graph_space_keys.l0 k l1 ([] : List Int) l0_1 (l0_1.length : Int) 0 a0_0 l0_1) = some r := h
  clear h
  have H' := Aside0.mk H
  clear H
  go_enter Tryz.func43, Tryz.ntmps43
  go_wp2_with (first | ((with_reducible refine gate_dst (N := 2) rfl ?_); refine box_event ?hg (N := 2) ?hd (cs := #[.int .i64 a0_0, .slice A0_1 l0_1.length c0_1]) (t := 63) ?hr ?_; (case hd => rfl); (case hg => rfl); (case hr => first | (go_simp; done) | (go_simp; rfl)); intro gb253 hg w3 hbox hb; have n0_ := Aside0.mk (below_step (by repeat (first | (with_reducible first | exact HB.out | apply below_alloc | apply pw_below_drewN | apply below_drew1) | exact HB.out)) hb); have n1_ := Aside0.mk (hbox); have n2_ := Aside0.mk ((by rw [hg]; exact (below_size (by repeat (first | (with_reducible first | exact HB.out | apply below_alloc | apply pw_below_drewN | apply below_drew1) | exact HB.out))) : w.heap.size ≤ gb253)); have n3_ := Aside0.mk ((by rw [hg]; exact (below_size (by repeat (first | (with_reducible first | exact HB.out | apply below_alloc | apply pw_below_drewN | apply below_drew1) | exact HB.out))) : w.heap.size ≤ gb253)); clear HB; have HB := n0_; have BK253 := n1_; have GW253 := n2_; have GE253 := n3_; clear n0_ n1_ n2_ n3_; clear hb hbox hg; have hcz4_0 : w3.cell? ⟨gb253, 0, none⟩ = some (.int .i64 a0_0) := (blk_cell BK253.out 0).trans rfl; have hcz4_1 : w3.cell? ⟨gb253, 1, none⟩ = some (.slice A0_1 l0_1.length c0_1) := (blk_cell BK253.out 1).trans rfl; have hfz4_0 := blk_frozen BK253.out 0; have hfz4_1 := blk_frozen BK253.out 1))
  go_loopg [5, 11] k (fun kq v5 v11 w' => ∃ (x5_1 : List Int) (x11_1 : Int), v11 = .int .i64 x11_1 ∧ Aside0 (graph_space_keys.l0 kq l1 x5_1 l0_1 (l0_1.length : Int) x11_1 a0_0 l0_1 = some r) ∧ Aside0 (kq ≤ k) ∧ Aside0 (Kd.R (Kd.int .i64) 3 w' w.heap.size (fun _ => True) v5 x5_1) ∧ Aside0 (w'.heap[gb253]? = some (.cells #[.int .i64 a0_0, (.slice A0_1 l0_1.length c0_1)] 63 (0, 0))) ∧ Aside0 (Below w.heap.size w w'))
  case atStart => exact ⟨(([] : List Int)), (0), (by first | rfl | (simp; done) | (simp [*]; done)), H', ⟨Nat.le_refl _⟩, ⟨by first | exact Kd.R_nil _ _ _ _ _ | exact Kd.N_nil _ _ _ _ _ | exact Kd.V_nil _ _ _ _ _ | exact Kd.Q_nil _ _ _ _ _ | exact Kd.S_nil _ _ _ _ _⟩, ⟨by (with_reducible repeat (first | refine blk_drewN ?_ _ | refine blk_drew ?_ | refine blk_alloc ?_ _)); exact BK253.out⟩, ⟨by repeat (first | (with_reducible first | exact HB.out | apply below_alloc | apply pw_below_drewN | apply below_drew1 | refine below_set ?_ GE253.out) | exact HB.out)⟩⟩
  case round =>
    clear H'
    try clear c1
    try clear p2
    try clear c4
    try clear hcz4_0
    try clear hcz4_1
    try clear hfz4_0
    try clear hfz4_1
    obtain ⟨x5_1, x11_1, rfl, HA, HK1, HO_5, BK253, HB⟩ := hrel
    cases gk with
    | zero => exact absurd HA.out (by simp [graph_space_keys.l0])
    | succ k1 =>
      have H := HA.out
      clear HA
      simp only [graph_space_keys.l0] at H
      by_cases c5 : x11_1 < (l0_1.length : Int)
      · rw [if_pos c5] at H
        have c5b0 : decide (x11_1 < (l0_1.length : Int)) = true := decide_eq_true c5
        clear c5
        by_cases c6 : 0 ≤ x11_1
        · rw [if_pos c6] at H
          have c6b0 : decide (0 ≤ x11_1) = true := decide_eq_true c6
          clear c6
          by_cases c7 : x11_1 < (l0_1.length : Int)
          · rw [if_pos c7] at H
            have c7b0 : decide (x11_1 < (l0_1.length : Int)) = true := decide_eq_true c7
            clear c7
            replace H := Option.bind_eq_some_iff.mp H
            obtain ⟨t255, A80, H⟩ := H
            replace H : (if x5_1.length < 17592186044416 then (graph_space_keys.l0 k1 l1 (x5_1 ++ [t255]) l0_1 (l0_1.length : Int) (wrap64 (x11_1 + 1)) a0_0 l0_1) else (none)) = some r := H
            have A8 := Aside0.mk A80
            clear A80
            by_cases c9 : x5_1.length < 17592186044416
            · rw [if_pos c9] at H
              have LMc9 := Aside0.mk c9
              clear c9
              obtain ⟨y256, hy256⟩ : ∃ y_ : List Int, y_ = (x5_1 ++ [t255]) := ⟨_, rfl⟩
              replace H : (graph_space_keys.l0 k1 l1 y256 l0_1 (l0_1.length : Int) (wrap64 (x11_1 + 1)) a0_0 l0_1) = some r := by first | (rw [hy256]; with_reducible exact H) | (have H2_ := (Option.bind_some _ _).symm.trans H; rw [hy256]; with_reducible exact H2_) | (have H2_ := (Option.bind_some _ _).symm.trans H; with_reducible exact H2_) | with_reducible exact H | (rw [hy256]; exact H) | exact H
              have Ny256 := Aside0.mk hy256
              clear hy256
              have H' := Aside0.mk H
              clear H
              have p254 : 0 ≤ (x11_1 : Int) := of_decide_eq_true (by first | (with_reducible assumption) | assumption)
              have q254 : x11_1 < (l0_1.length : Int) := of_decide_eq_true (by first | (with_reducible assumption) | assumption)
              obtain ⟨ad254, A254_0, c254_0, e254, hx254_0, hl254_0, hi254_0⟩ := at_L1 HR0_1.out x11_1 p254 q254
              cases e254
              replace hx254_0 := (HB.out.cell (World.block_lt_of_cell? w _ hx254_0)).trans hx254_0
              have HR254_0 := Aside0.mk hi254_0
              have HC254_0 := Aside0.mk hl254_0
              clear hi254_0 hl254_0
              replace p254 := eq_true p254
              replace q254 := eq_true q254
              have hcz10_0 : wr.cell? ⟨gb253, 0, none⟩ = some (.int .i64 a0_0) := (blk_cell BK253.out 0).trans rfl
              have hcz10_1 : wr.cell? ⟨gb253, 1, none⟩ = some (.slice (some ad254) l0_1.length c0_1) := (blk_cell BK253.out 1).trans rfl
              have hfz10_0 := blk_frozen BK253.out 0
              have hfz10_1 := blk_frozen BK253.out 1
              go_wp2_with (first | ((with_reducible refine gate_callee (f := 28) rfl ?_); refine goesL_ (some 20) rfl rfl Tryz.func28 (by kernel_rfl) rfl #[.int .i64 a0_0, .slice A254_0 (rd_L1 l0_1 x11_1).length c254_0, .slice A1 l1.length c1] rfl (by (try simp only [List.map_toArray, List.map_cons, List.map_nil]); first | done | rfl | (simp only [List.length_drop, List.length_take]; rfl)) ?_; (with_reducible refine (vector_Key.calls k1 a0_0 _ _ (rd_L1 l0_1 x11_1) _ _ l1 t255 _ ?side1 ?side2 ?side3 ?side4 A8.out).mono ?_); (case side1 => repeat (first | exact (Kd.C_below HR254_0.out HB.out) | (with_reducible refine Kd.C_alloc ?_ _) | (with_reducible refine Kd.C_drewN ?_ _) | (with_reducible refine Kd.C_drew ?_))); (case side2 => exact HC254_0.out); (case side3 => repeat (first | exact (Kd.C_below HR1.out HB.out) | (with_reducible refine Kd.C_alloc ?_ _) | (with_reducible refine Kd.C_drewN ?_ _) | (with_reducible refine Kd.C_drew ?_))); (case side4 => exact HC1.out); rintro e w11 ⟨rfl, hb⟩; refine ⟨_, rfl, ?_⟩; have n0_ := Aside0.mk (Kd.R_below (by (with_reducible repeat (first | apply Kd.R_alloc | apply Kd.R_drewN | apply Kd.R_drew)); exact HO_5.out) hb); have n1_ := Aside0.mk (blk_below (g := gb253) (o := .cells #[.int .i64 a0_0, .slice (some ad254) l0_1.length c0_1] 63 (0, 0)) (by (with_reducible repeat (first | refine blk_drewN ?_ _ | refine blk_drew ?_ | refine blk_alloc ?_ _)); exact BK253.out) hb); have n2_ := Aside0.mk (below_step (by repeat (first | (with_reducible first | exact HB.out | apply below_alloc | apply pw_below_drewN | apply below_drew1 | refine below_set ?_ GE253.out) | exact HB.out)) hb); clear HO_5; clear BK253; clear HB; have HO_5 := n0_; have BK253 := n1_; have HB := n2_; clear n0_ n1_ n2_; (try clear hb); (try clear hb2); (try clear hk); (try clear hi)) | ((with_reducible refine gate_builtin (b := .append) (xs := #[.tmp 15, .tmp 21]) rfl ?_); at_builtin; refine Kd.R_append (Kd.int .i64) (w0 := w) w.heap.size rfl (.tmp 15) (.tmp 21) 26 3 (.int .i64 0) 8 rfl Tryz.underlying26 info3 rfl (by decide) (by omega) u5 x5_1 t255 [.int .i64 t255] (fun _ => True) (fun _ => False) rfl rfl ?aP (fun _ hk => hk.elim) ?aF ?aO ?aB ?aS ?aL ?_; (case aP => exact rfl); (case aB => exact (by repeat (first | (with_reducible first | exact HB.out | apply below_alloc | apply pw_below_drewN | apply below_drew1 | refine below_set ?_ GE253.out) | exact HB.out))); (case aF => exact (fun _ _ => trivial)); (case aO => exact (by (with_reducible repeat (first | apply Kd.R_alloc | apply Kd.R_drewN | apply Kd.R_drew)); exact HO_5.out)); (case aS => exact (below_size (by repeat (first | (with_reducible first | exact HB.out | apply below_alloc | apply pw_below_drewN | apply below_drew1 | refine below_set ?_ GE253.out) | exact HB.out)))); (case aL => have := LMc9.out; omega); intro v257 w12 ho hb hg hat; rw [← Ny256.out] at ho; have n0_ := Aside0.mk (blk_grown (g := gb253) (o := .cells #[.int .i64 a0_0, .slice (some ad254) l0_1.length c0_1] 63 (0, 0)) (by (with_reducible repeat (first | refine blk_drewN ?_ _ | refine blk_drew ?_ | refine blk_alloc ?_ _)); exact BK253.out) hg (Kd.R_ne HO_5.out BK253.out (by decide))); have n1_ := Aside0.mk (hb); have n2_ := Aside0.mk (ho); clear BK253; clear HB; clear HO_5; have BK253 := n0_; have HB := n1_; have HO258 := n2_; clear n0_ n1_ n2_; clear ho hb hg hat))
              go_roundg k1
              case measure => have := HK1.out; omega
              case rel => exact ⟨(y256), (wrap64 (x11_1 + 1)), (by first | rfl | (simp; done) | (simp [*]; done)), H', ⟨by have := HK1.out; omega⟩, ⟨by (with_reducible repeat (first | apply Kd.R_alloc | apply Kd.R_drewN | apply Kd.R_drew)); exact HO258.out⟩, ⟨by (with_reducible repeat (first | refine blk_drewN ?_ _ | refine blk_drew ?_ | refine blk_alloc ?_ _)); exact BK253.out⟩, ⟨by repeat (first | (with_reducible first | exact HB.out | apply below_alloc | apply pw_below_drewN | apply below_drew1 | refine below_set ?_ GE253.out) | exact HB.out)⟩⟩
            · rw [if_neg c9] at H
              exact absurd H (by simp)
          · rw [if_neg c7] at H
            exact absurd H (by simp)
        · rw [if_neg c6] at H
          exact absurd H (by simp)
      · rw [if_neg c5] at H
        have c5b0 : decide (x11_1 < (l0_1.length : Int)) = false := decide_eq_false c5
        clear c5
        obtain rfl := Option.some.inj H
        go_wp2
        go_ret
        exact ⟨_, by first | rfl | (simp [errW_none, errW_some] <;> rfl) | (simp [*, errW_none, errW_some] <;> rfl), by (with_reducible repeat (first | apply Kd.R_alloc | apply Kd.R_drewN | apply Kd.R_drew)); exact HO_5.out, by repeat (first | (with_reducible first | exact HB.out | apply below_alloc | apply pw_below_drewN | apply below_drew1 | refine below_set ?_ GE253.out) | exact HB.out)⟩
def keyB (a : Int) : Bool := decide (0 ≤ a ∧ a ≤ 134217728)
def metric_High.f (a0 : Int) (a1 : Int) (a2 : Int) : Option (Int) :=
  if keyB a1 = true ∧ keyB a2 = true then
    if a0 = 2 then (metric_Isqrt.f 100 (4 * a1 * a2)).bind fun s => if 0 ≤ s ∧ s ≤ 1152921504606846976 then some (mn (a1 + a2 + s) 134217728) else none
    else some (mn (a1 + a2) 134217728)
  else none
set_option maxHeartbeats 400000 in
set_option maxRecDepth 100000 in
theorem sum2 (a b : Int) (w : World) (ha : 0 ≤ a) (ha2 : a ≤ 134217728) (hb : 0 ≤ b) (hb2 : b ≤ 134217728) :
    Calls Tryz.prog 103 #[.int .i64 a, .int .i64 b] w fun e w' => e = .returned (.int .i64 (a + b)) ∧ w' = w := by
  go_enter Tryz.func103, Tryz.ntmps103
  go_wp2
  go_ret
  exact ⟨rfl, rfl⟩
set_option maxHeartbeats 400000 in
set_option maxRecDepth 100000 in
theorem sumC (w : World) :
    Calls Tryz.prog 83 #[] w fun e w' => e = .returned (.agg #[.func (.func 102) #[] #[], .func (.func 103) #[] #[]]) ∧ Below w.heap.size w w' := by
  have hu := Tryz.underlying92
  go_enter Tryz.func83, Tryz.ntmps83
  go_wp2
  refine bodyPost_ret (results_cell_row rfl _ _ w.heap.size 92 #[.func (.func 102) #[] #[], .func (.func 103) #[] #[]] (0, 0) _ rfl (blk_new _ _) Tryz.underlying92 rfl (by kernel_rfl)) rfl ?_
  exact ⟨rfl, below_alloc (Below.refl _ _) _⟩
set_option maxHeartbeats 400000 in
set_option maxRecDepth 100000 in
theorem square1C (s : Int) (w : World) :
    Calls Tryz.prog 99 #[.int .i64 s] w fun e w' => e = .returned (.func (.func 100) #[] #[.pointer (some ⟨w.heap.size, 0, none⟩)]) ∧ w' = w.alloc (.cells #[.int .i64 s] 3) := by
  go_enter Tryz.func99, Tryz.ntmps99
  go_wp2
  go_ret
  exact ⟨rfl, rfl⟩
set_option maxHeartbeats 400000 in
set_option maxRecDepth 100000 in
theorem squareC (w : World) :
    Calls Tryz.prog 82 #[] w fun e w' => ∃ b0 b1, e = .returned (.agg #[.func (.func 100) #[] #[.pointer (some ⟨b0, 0, none⟩)], .func (.func 100) #[] #[.pointer (some ⟨b1, 0, none⟩)]]) ∧ w'.cell? ⟨b1, 0, none⟩ = some (.int .i64 1) ∧ b1 < w'.heap.size ∧ w.heap.size ≤ b1 ∧ Below w.heap.size w w' := by
  have hu := Tryz.underlying92
  go_enter Tryz.func82, Tryz.ntmps82
  go_wp2_with fail
  refine (square1C _ _).mono ?_
  rintro e w' ⟨rfl, rfl⟩
  go_wp2_with fail
  refine (square1C _ _).mono ?_
  rintro e w' ⟨rfl, rfl⟩
  go_wp2
  refine bodyPost_ret (results_cell_row rfl _ _ w.heap.size 92 _ (0, 0) _ rfl (blk_alloc (blk_alloc (blk_new _ _) _) _) Tryz.underlying92 rfl (by kernel_rfl)) rfl ?_
  refine ⟨_, _, rfl, ?_, ?_, by omega, below_alloc (below_alloc (below_alloc (Below.refl _ _) _) _) _⟩
  · have := cell_one_new ((w.alloc (.cells #[.func (.func 100) #[] #[.pointer (some ⟨w.heap.size + 1, 0, none⟩)], .func (.func 100) #[] #[.pointer (some ⟨w.heap.size + 1 + 1, 0, none⟩)]] 92)).alloc (.cells #[.int .i64 (-1)] 3)) (.int .i64 1) 3
    have h2 := this 0 _ rfl
    simpa [Addr.add] using h2
  · simp
theorem Drawn0.quiet {f : FuncId} {args : Array Value} {w : World} {n : Nat} {v : Value} (h : Calls Tryz.prog f args (w.drewN n) fun e w' => e = .returned v ∧ Drawn0 (w.drewN n) w') :
    Calls Tryz.prog f args (w.drewN n) fun e w'' => e = .returned v ∧ ∃ m, w'' = w.drewN m :=
  Calls.quiet_of (h.mono fun _ _ ⟨he, hd⟩ => ⟨he, hd.out⟩)
set_option maxHeartbeats 400000 in
set_option maxRecDepth 100000 in
theorem square11C (a b s : Int) (bk : Nat) (w : World) (hc : w.cell? ⟨bk, 0, none⟩ = some (.int .i64 1)) (ha : 0 ≤ a) (ha2 : a ≤ 134217728) (hb : 0 ≤ b) (hb2 : b ≤ 134217728) (hp0 : 0 ≤ a * b) (hp : a * b ≤ 18014398509481984) (h : metric_Isqrt.f 100 (4 * a * b) = some s) (hs0 : 0 ≤ s) (hs : s ≤ 1152921504606846976) :
    Calls Tryz.prog 100 #[.int .i64 a, .int .i64 b, .pointer (some ⟨bk, 0, none⟩)] w fun e w' => e = .returned (.int .i64 (a + b + s)) ∧ Below w.heap.size w w' := by
  have e4 : 4 * a * b = 4 * (a * b) := Int.mul_assoc ..
  have hm0 : 0 ≤ 4 * a * b := by omega
  have hm1 : 4 * a * b ≤ 72057594037927936 := by omega
  have hq : ∀ n, Calls Tryz.prog 101 #[.int .i64 (4 * a * b)] (w.drewN n) fun e w'' => e = .returned (.int .i64 s) ∧ ∃ m, w'' = w.drewN m := fun n => Drawn0.quiet (metric_Isqrt.calls 100 (4 * a * b) s _ h)
  have HC := Aside0.mk hq
  clear hq
  have w1 : IntKind.i64.wrap (a + b) = a + b := IntWalk.i64_in _ (by omega)
  have w2 : IntKind.i64.wrap (4 * a) = 4 * a := IntWalk.i64_in _ (by omega)
  have w3 : IntKind.i64.wrap (4 * a * b) = 4 * a * b := IntWalk.i64_in _ (by omega)
  have w4 : IntKind.i64.wrap (1 * s) = s := by rw [Int.one_mul]; exact IntWalk.i64_in _ (by omega)
  have w5 : IntKind.i64.wrap (a + b + s) = a + b + s := IntWalk.i64_in _ (by omega)
  clear e4 h hp hp0
  go_enter Tryz.func100, Tryz.ntmps100
  go_wp2_with fail
  go_quiet ((go_at_call 101; exact HC.out _))
  go_wp2
  go_ret
  exact ⟨rfl, pw_below_drewN (Below.refl _ _) _⟩
theorem mul_bd (a b : Int) (ha : 0 ≤ a) (ha2 : a ≤ 134217728) (hb : 0 ≤ b) (hb2 : b ≤ 134217728) : 0 ≤ a * b ∧ a * b ≤ 18014398509481984 := by
  refine ⟨Int.mul_nonneg ha hb, ?_⟩
  have h1 : a * b ≤ 134217728 * 134217728 := Int.mul_le_mul ha2 hb2 hb (by omega)
  omega
set_option maxHeartbeats 400000 in
set_option maxRecDepth 100000 in
theorem ofSum (m : Int) (hm : (m == 2) = false) (w : World) :
    Calls Tryz.prog 65 #[.int .i64 m] w fun e w' => e = .returned (.agg #[.func (.func 102) #[] #[], .func (.func 103) #[] #[]]) ∧ Below w.heap.size w w' := by
  have hu := Tryz.underlying92
  go_enter Tryz.func65, Tryz.ntmps65
  go_wp2_with fail
  refine (sumC _).mono ?_
  rintro e w1 ⟨rfl, hb⟩
  have hl : w.heap.size < w1.heap.size := by have := hb.size; simp at this; omega
  have hB0 := blk_below (blk_new w (.cells #[.nilFunc, .nilFunc] 92)) hb
  have hc0 : w1.cell? ⟨w.heap.size, 0, none⟩ = some .nilFunc := by simp [World.cell?, hB0]
  have hc1 : w1.cell? ⟨w.heap.size, 1, none⟩ = some .nilFunc := by simp [World.cell?, hB0]
  have hf0 : w1.frozen? ⟨w.heap.size, 0, none⟩ = false := by simp [World.frozen?, hB0]
  have hf1 : w1.frozen? ⟨w.heap.size, 1, none⟩ = false := by simp [World.frozen?, hB0]
  have HB := Aside0.mk hB0
  have HBB := Aside0.mk hb
  clear hB0 hb
  go_wp2
  refine bodyPost_ret (results_cell_row rfl _ _ w.heap.size 92 _ (0, 0) _ rfl (blk_put (cs := #[.func (.func 102) #[] #[], .nilFunc]) (blk_put (cs := #[.nilFunc, .nilFunc]) HB.out 0 _ rfl) 1 _ rfl) Tryz.underlying92 rfl (by kernel_rfl)) rfl ?_
  refine ⟨rfl, ?_⟩
  exact ((below_step (below_alloc (Below.refl _ _) _) HBB.out).setCell (p := ⟨w.heap.size, 0, none⟩) (Nat.le_refl _) _).setCell (p := ⟨w.heap.size, 1, none⟩) (Nat.le_refl _) _
set_option maxHeartbeats 400000 in
set_option maxRecDepth 100000 in
theorem ofSquare (w : World) :
    Calls Tryz.prog 65 #[.int .i64 2] w fun e w' => ∃ b0 b1, e = .returned (.agg #[.func (.func 100) #[] #[.pointer (some ⟨b0, 0, none⟩)], .func (.func 100) #[] #[.pointer (some ⟨b1, 0, none⟩)]]) ∧ w'.cell? ⟨b1, 0, none⟩ = some (.int .i64 1) ∧ Below w.heap.size w w' := by
  have hu := Tryz.underlying92
  go_enter Tryz.func65, Tryz.ntmps65
  go_wp2_with fail
  refine (squareC _).mono ?_
  rintro e w1 ⟨b0, b1, rfl, hc, hlt, hge, hb⟩
  have hl : w.heap.size < w1.heap.size := by have := hb.size; simp at this; omega
  have hB0 := blk_below (blk_new w (.cells #[.nilFunc, .nilFunc] 92)) hb
  have hc0 : w1.cell? ⟨w.heap.size, 0, none⟩ = some .nilFunc := by simp [World.cell?, hB0]
  have hc1 : w1.cell? ⟨w.heap.size, 1, none⟩ = some .nilFunc := by simp [World.cell?, hB0]
  have hf0 : w1.frozen? ⟨w.heap.size, 0, none⟩ = false := by simp [World.frozen?, hB0]
  have hf1 : w1.frozen? ⟨w.heap.size, 1, none⟩ = false := by simp [World.frozen?, hB0]
  have HB := Aside0.mk hB0
  have HBB := Aside0.mk hb
  have HC := Aside0.mk hc
  have HG := Aside0.mk hge
  clear hB0 hb hc hge hlt
  go_wp2
  refine bodyPost_ret (results_cell_row rfl _ _ w.heap.size 92 _ (0, 0) _ rfl (blk_put (cs := #[.func (.func 100) #[] #[.pointer (some ⟨b0, 0, none⟩)], .nilFunc]) (blk_put (cs := #[.nilFunc, .nilFunc]) HB.out 0 _ rfl) 1 _ rfl) Tryz.underlying92 rfl (by kernel_rfl)) rfl ?_
  refine ⟨_, _, rfl, ?_, ?_⟩
  · have hne : b1 ≠ w.heap.size := by have := HG.out; simp at this; omega
    simp only [World.cell?]
    rw [Below.heap_setCell _ _ _ _ (by simpa using hne), Below.heap_setCell _ _ _ _ (by simpa using hne)]
    exact HC.out
  · exact ((below_step (below_alloc (Below.refl _ _) _) HBB.out).setCell (p := ⟨w.heap.size, 0, none⟩) (Nat.le_refl _) _).setCell (p := ⟨w.heap.size, 1, none⟩) (Nat.le_refl _) _
theorem field_rules (fa fb : Fn) (x y : Array Value) (w : World) : (Instr.field 92 (.agg #[.func fa #[] x, .func fb #[] y]) 1).run Tryz.prog w = .ok (.func fb #[] y) w := by kernel_rfl
set_option maxHeartbeats 400000 in
set_option maxRecDepth 100000 in
theorem metric_High.sum (m a b : Int) (w : World) (hm : (m == 2) = false) (ha : 0 ≤ a) (ha2 : a ≤ 134217728) (hb : 0 ≤ b) (hb2 : b ≤ 134217728) :
    Calls Tryz.prog 40 #[.int .i64 m, .int .i64 a, .int .i64 b] w fun e w' => e = .returned (.int .i64 (mn (a + b) 134217728)) ∧ Below w.heap.size w w' := by
  have hu := Tryz.underlying92
  have HS := Aside0.mk (fun w => sum2 a b w ha ha2 hb hb2)
  have HO := Aside0.mk (ofSum m hm w)
  clear hm
  have hfl := field_rules
  go_enter Tryz.func40, Tryz.ntmps40
  go_wp2_with fail
  refine HO.out.mono ?_
  rintro e w1 ⟨rfl, hB⟩
  have HB := Aside0.mk hB
  clear hB
  go_wp2_with fail
  refine (HS.out _).mono ?_
  rintro e w2 ⟨rfl, rfl⟩
  go_wp2
  all_goals
    go_ret
    exact ⟨ret_int (by unfold mn; (repeat' split) <;> omega), HB.out⟩
set_option maxHeartbeats 400000 in
set_option maxRecDepth 100000 in
theorem metric_High.square (a b s : Int) (w : World) (ha : 0 ≤ a) (ha2 : a ≤ 134217728) (hb : 0 ≤ b) (hb2 : b ≤ 134217728) (h : metric_Isqrt.f 100 (4 * a * b) = some s) (hs0 : 0 ≤ s) (hs : s ≤ 1152921504606846976) :
    Calls Tryz.prog 40 #[.int .i64 2, .int .i64 a, .int .i64 b] w fun e w' => e = .returned (.int .i64 (mn (a + b + s) 134217728)) ∧ Below w.heap.size w w' := by
  have hu := Tryz.underlying92
  have hp := mul_bd a b ha ha2 hb hb2
  have HS := Aside0.mk (fun bk w hc => square11C a b s bk w hc ha ha2 hb hb2 hp.1 hp.2 h hs0 hs)
  have HO := Aside0.mk (ofSquare w)
  clear hp h
  have hfl := field_rules
  go_enter Tryz.func40, Tryz.ntmps40
  go_wp2_with fail
  refine HO.out.mono ?_
  rintro e w1 ⟨b0, b1, rfl, hc, hB⟩
  have HB := Aside0.mk hB
  have HC := Aside0.mk hc
  clear hB hc
  go_wp2_with fail
  refine (HS.out _ _ HC.out).mono ?_
  rintro e w2 ⟨rfl, hB2⟩
  have HB2 := Aside0.mk (below_step HB.out hB2)
  clear hB2
  go_wp2
  all_goals
    go_ret
    exact ⟨ret_int (by unfold mn; (repeat' split) <;> omega), HB2.out⟩
theorem metric_High.calls (a0 : Int) (a1 : Int) (a2 : Int) (r : Int) (w : World) (h : metric_High.f a0 a1 a2 = some r) :
    Calls Tryz.prog 40 #[.int .i64 a0, .int .i64 a1, .int .i64 a2] w fun e w' => e = .returned (.int .i64 r) ∧ Below w.heap.size w w' := by
  unfold metric_High.f at h
  split at h
  case isFalse => cases h
  rename_i hk
  simp only [keyB, decide_eq_true_eq] at hk
  obtain ⟨⟨h1, h2⟩, h3, h4⟩ := hk
  split at h
  · rename_i hm
    subst hm
    obtain ⟨s, hs, h⟩ := Option.bind_eq_some_iff.1 h
    split at h
    case isFalse => cases h
    rename_i hb
    obtain rfl := Option.some.inj h
    exact metric_High.square a1 a2 s w h1 h2 h3 h4 hs hb.1 hb.2
  · rename_i hm
    obtain rfl := Option.some.inj h
    exact metric_High.sum a0 a1 a2 w (by simpa using hm) h1 h2 h3 h4
def alikeF (a b : List Int) : Bool := decide (a.length = b.length) && (validV a && validV b)
theorem alike_f (a b : List Int) : vector_Alike.f a b = some (alikeF a b) := by
  unfold vector_Alike.f alikeF vector_Valid.f
  by_cases h : a.length = b.length
  · rw [if_pos (by omega)]
    simp only [Option.bind_some, h, decide_true, Bool.true_and]
    cases validV a <;> simp
  · rw [if_neg (by omega)]
    simp [h]
set_option maxHeartbeats 400000 in
set_option maxRecDepth 100000 in
theorem oddC (B : Nat) (m : Int) (A : Option Addr) (c : Nat) (l : List (List Int)) (Av : Option Addr) (cv : Nat) (v : List Int) (w : World) (hB : w.heap[B]? = some (.cells #[.int .i64 m, .slice A l.length c] 63 (0, 0))) (hl : Kd.C (Kd.slice 3 (Kd.int .i64)) w A l.length l) (h1 : 1 ≤ l.length) (hv : Kd.C (Kd.int .i64) w Av v.length v) (hcv : v.length ≤ cv) :
    Calls Tryz.prog 67 #[.slice Av v.length cv, .pointer (some ⟨B, 0, none⟩)] w fun e w' => e = .returned (.bool (!alikeF (rdL l 0) v)) ∧ Drawn0 w w' := by
  obtain ⟨ad, A0, c0, rfl, hx, hlc, hi⟩ := at_rows hl 0 (by omega) (by omega)
  have hC := vector_Alike.calls A0 c0 (rdL l 0) Av cv v _ w hi hlc hv hcv (alike_f _ _)
  have HC := Aside0.mk hC
  have b1 : w.cell? ⟨B, 1, none⟩ = some (.slice (some ad) l.length c) := by simp [World.cell?, hB]
  have hu := Tryz.underlying63
  have hpos : (0 : Int) < (l.length : Int) := by omega
  have hx : w.cell? ad = some (.slice A0 (rdL l 0).length c0) := by simpa [Addr.add] using hx
  clear hB hl hC hi hlc hv hcv
  go_enter Tryz.func67, Tryz.ntmps67
  go_wp2_with fail
  refine HC.out.mono ?_
  rintro e w' ⟨rfl, hd⟩
  have HD := Aside0.mk hd
  clear hd
  go_wp2
  go_ret
  exact ⟨rfl, HD.out⟩
def SomeIdx (b : Bool) (w : World) (e : Ending) (w' : World) : Prop := ∃ n : Int, -1 ≤ n ∧ decide (0 ≤ n) = b ∧ e = .returned (.int .i64 n) ∧ Drawn0 w w'
theorem any_take_succ (p : List Int → Bool) (l : List (List Int)) (n : Nat) (h : n < l.length) : (l.take (n+1)).any p = ((l.take n).any p || p (rdL l n)) := by
  rw [List.take_succ_eq_append_getElem h, List.any_append]; simp [rdL, h]
theorem any_of_rd (p : List Int → Bool) (l : List (List Int)) (n : Nat) (h : n < l.length) (hp : p (rdL l n) = true) : l.any p = true := by
  rw [List.any_eq_true]
  refine ⟨_, ?_, hp⟩
  unfold rdL
  rw [List.getD_eq_getElem?_getD]; simp [h]
theorem drawn_trans {a b c : World} (h : Drawn0 a b) (k : Drawn0 b c) : Drawn0 a c := by
  obtain ⟨n, rfl⟩ := k.out
  exact h.step n
def oddF (l : List (List Int)) (v : List Int) : Bool := !alikeF (rdL l 0) v
set_option maxHeartbeats 400000 in
set_option maxRecDepth 100000 in
theorem indexOdd (B : Nat) (m : Int) (A : Option Addr) (c : Nat) (l : List (List Int)) (w : World) (hB : w.heap[B]? = some (.cells #[.int .i64 m, .slice A l.length c] 63 (0, 0))) (hl : Kd.C (Kd.slice 3 (Kd.int .i64)) w A l.length l) (h1 : 1 ≤ l.length) :
    Calls Tryz.prog 85 #[.slice A l.length c, .func (.func 67) #[] #[.pointer (some ⟨B, 0, none⟩)]] w (SomeIdx (l.any (oddF l)) w) := by
  have hn : l.length ≤ 9223372036854775807 := Kd.C_max hl
  have HB := Aside0.mk hB
  have HL := Aside0.mk hl
  clear hB hl
  go_enter Tryz.func85, Tryz.ntmps85
  go_wp2
  go_loopw [5, 8] (fun _ i wr => ∃ k : Nat, k ≤ l.length ∧ i = .int .i64 k ∧ Aside0 ((l.take k).any (oddF l) = false) ∧ Aside0 (Drawn0 w wr)) (fun _ i _ => l.length - (intOf i).toNat)
  case atStart => exact ⟨0, Nat.zero_le _, rfl, ⟨by simp⟩, ⟨Drawn0.refl _⟩⟩
  case round =>
    obtain ⟨k, hk, rfl, HA, HD⟩ := hrel
    by_cases hlt : k < l.length
    · have hb := HD.out.below
      obtain ⟨ad, A0, c0, rfl, hx, hlc, hi⟩ := at_rows (Kd.C_below HL.out hb) k (by omega) (by omega)
      simp only [Int.toNat_natCast] at hx
      have hC := oddC B m (some ad) c l A0 c0 (rdL l k) _ (blk_below HB.out hb) (Kd.C_below HL.out hb) h1 hi hlc
      have HC := Aside0.mk hC
      clear hC hi hlc hb
      go_wp2_with fail
      refine HC.out.mono ?_
      rintro e w' ⟨rfl, hd⟩
      have HD2 := Aside0.mk (drawn_trans HD.out hd)
      clear hd HD HC
      cases ho : oddF l (rdL l k) with
      | true =>
        have ho' : (!alikeF (rdL l 0) (rdL l k)) = true := ho
        rw [ho']
        have HP := Aside0.mk (any_of_rd _ l k hlt ho)
        clear ho ho'
        go_wp2
        go_ret
        exact ⟨k, by omega, by rw [HP.out]; simp, rfl, HD2.out⟩
      | false =>
        have ho' : (!alikeF (rdL l 0) (rdL l k)) = false := ho
        rw [ho']
        have HP := Aside0.mk (show (l.take (k+1)).any (oddF l) = false by rw [any_take_succ _ _ _ hlt, HA.out, ho]; rfl)
        clear ho ho'
        go_wp2
        go_roundw
        case rel => exact ⟨k + 1, by omega, by go_num, HP, HD2⟩
        case measure => simp [intOf]; omega
    · have HP := Aside0.mk (show l.any (oddF l) = false by have := HA.out; rwa [List.take_of_length_le (by omega)] at this)
      clear HA
      go_wp2
      go_ret
      exact ⟨-1, by omega, by rw [HP.out]; rfl, rfl, HD.out⟩
set_option maxHeartbeats 400000 in
set_option maxRecDepth 100000 in
theorem containsOdd (B : Nat) (m : Int) (A : Option Addr) (c : Nat) (l : List (List Int)) (w : World) (hB : w.heap[B]? = some (.cells #[.int .i64 m, .slice A l.length c] 63 (0, 0))) (hl : Kd.C (Kd.slice 3 (Kd.int .i64)) w A l.length l) (h1 : 1 ≤ l.length) :
    Calls Tryz.prog 69 #[.slice A l.length c, .func (.func 67) #[] #[.pointer (some ⟨B, 0, none⟩)]] w fun e w' => e = .returned (.bool (l.any (oddF l))) ∧ Drawn0 w w' := by
  have HC := Aside0.mk (indexOdd B m A c l w hB hl h1)
  clear hB hl h1
  go_enter Tryz.func69, Tryz.ntmps69
  go_wp2_with fail
  refine HC.out.mono ?_
  rintro e w' ⟨n, hn, hb, rfl, hd⟩
  have HD := Aside0.mk hd
  have HB := Aside0.mk hb
  clear hd hb
  go_wp2
  go_ret
  exact ⟨ret_bool (by rw [← HB.out]), HD.out⟩
def rightF (m : Int) (l : List (List Int)) : Bool := decide (1 ≤ m ∧ m ≤ 3) && (decide (1 ≤ l.length ∧ l.length ≤ 4096) && !l.any (oddF l))
def graph_space_isRight.f (a0_0 : Int) (l0_1 : List (List Int)) : Option (Bool) := some (rightF a0_0 l0_1)
theorem valid0 (m : Int) : metric_Valid.f m 0 = some (decide (1 ≤ m ∧ m ≤ 3)) := by
  unfold metric_Valid.f metric_clamp_int.f
  by_cases h1 : 1 ≤ m
  · by_cases h2 : m ≤ 3
    · rw [if_pos (by omega), if_pos h2]; simp [h1, h2, mx, mn]
    · rw [if_pos (by omega), if_neg h2]; simp [h2]
  · rw [if_neg (by omega)]; simp [h1]
set_option maxHeartbeats 400000 in
set_option maxRecDepth 100000 in
theorem graph_space_isRight.calls (a0_0 : Int) (A0_1 : Option Addr) (c0_1 : Nat) (l0_1 : List (List Int)) (r : Bool) (w : World) (hr0_1 : Kd.C (Kd.slice 3 (Kd.int .i64)) w A0_1 l0_1.length l0_1) (hc0_1 : l0_1.length ≤ c0_1) (h : graph_space_isRight.f a0_0 l0_1 = some r) :
    Calls Tryz.prog 42 #[.agg #[.int .i64 a0_0, .slice A0_1 l0_1.length c0_1]] w fun e w' => e = .returned (.bool r) ∧ Below w.heap.size w w' := by
  obtain rfl := Option.some.inj h
  clear h
  have HV := Aside0.mk (fun w => metric_Valid.calls a0_0 0 _ w (valid0 a0_0))
  have HL := Aside0.mk hr0_1
  have hu := Tryz.underlying63
  clear hr0_1 hc0_1
  by_cases h1 : 1 ≤ a0_0 ∧ a0_0 ≤ 3
  · have hm : decide (1 ≤ a0_0 ∧ a0_0 ≤ 3) = true := by simpa using h1
    rw [hm] at HV
    by_cases h2 : 1 ≤ l0_1.length
    · by_cases h3 : l0_1.length ≤ 4096
      · have e : rightF a0_0 l0_1 = !l0_1.any (oddF l0_1) := by simp [rightF, h1, h2, h3]
        rw [e]; clear e hm h1
        go_enter Tryz.func42, Tryz.ntmps42
        go_wp2_with fail
        refine (HV.out _).mono ?_
        rintro e w' ⟨rfl, hd⟩
        obtain ⟨nq, rfl⟩ := hd.out
        clear hd
        go_wp2_with fail
        refine (containsOdd w.heap.size a0_0 A0_1 c0_1 l0_1 _ (blk_drewN (blk_new _ _) _) (Kd.C_drewN (Kd.C_alloc HL.out _) _) h2).mono ?_
        rintro e w' ⟨rfl, hd⟩
        obtain ⟨nq2, rfl⟩ := hd.out
        clear hd
        go_wp2
        go_ret
        exact ⟨rfl, pw_below_drewN (below_alloc (Below.refl _ _) _) _⟩
      · have e : rightF a0_0 l0_1 = false := by simp [rightF, h3]
        rw [e]; clear e hm h1
        go_enter Tryz.func42, Tryz.ntmps42
        go_wp2_with fail
        refine (HV.out _).mono ?_
        rintro e w' ⟨rfl, hd⟩
        obtain ⟨nq, rfl⟩ := hd.out
        clear hd
        go_wp2
        go_ret
        exact ⟨rfl, pw_below_drewN (below_alloc (Below.refl _ _) _) _⟩
    · have e : rightF a0_0 l0_1 = false := by simp [rightF, h2]
      rw [e]; clear e hm h1
      go_enter Tryz.func42, Tryz.ntmps42
      go_wp2_with fail
      refine (HV.out _).mono ?_
      rintro e w' ⟨rfl, hd⟩
      obtain ⟨nq, rfl⟩ := hd.out
      clear hd
      go_wp2
      go_ret
      exact ⟨rfl, pw_below_drewN (below_alloc (Below.refl _ _) _) _⟩
  · have hm : decide (1 ≤ a0_0 ∧ a0_0 ≤ 3) = false := by simpa using h1
    rw [hm] at HV
    have e : rightF a0_0 l0_1 = false := by simp [rightF, hm]
    rw [e]; clear e hm h1
    go_enter Tryz.func42, Tryz.ntmps42
    go_wp2_with fail
    refine (HV.out _).mono ?_
    rintro e w' ⟨rfl, hd⟩
    obtain ⟨nq, rfl⟩ := hd.out
    clear hd
    go_wp2
    go_ret
    exact ⟨rfl, pw_below_drewN (below_alloc (Below.refl _ _) _) _⟩
theorem w64 {i : Int} (h : -9223372036854775808 ≤ i ∧ i ≤ 9223372036854775807) : wrap64 i = i := by unfold wrap64; omega
theorem validV_iff {l : List Int} : validV l = true ↔ (∀ x ∈ l, -1000 ≤ x ∧ x ≤ 1000) ∧ 1 ≤ l.length ∧ l.length ≤ 32 := by
  simp [validV, okx, List.all_eq_true]
theorem rd_mem {l : List Int} {i : Int} (h0 : 0 ≤ i) (h1 : i < l.length) : rd l i ∈ l := by
  unfold rd
  rw [List.getD_eq_getElem?_getD, List.getElem?_eq_getElem (by omega)]
  exact List.getElem_mem _
theorem alikeF_iff {a b : List Int} : alikeF a b = true ↔ a.length = b.length ∧ validV a = true ∧ validV b = true := by simp [alikeF]
def subV (a b : List Int) : List Int := List.zipWith (fun x y => x - y) a b
theorem subV_length (a b : List Int) (h : a.length = b.length) : (subV a b).length = a.length := by simp [subV, h]
theorem rd_subV (a b : List Int) (h : a.length = b.length) (i : Nat) (hi : i < a.length) : rd (subV a b) i = rd a i - rd b i := by
  simp only [rd, subV, Int.toNat_natCast, List.getD_eq_getElem?_getD]
  rw [List.getElem?_eq_getElem (by simp; omega), List.getElem?_eq_getElem hi, List.getElem?_eq_getElem (by omega)]
  simp
def mixV (a b : List Int) (i : Nat) : List Int := (subV a b).take i ++ a.drop i
theorem mixV_length (a b : List Int) (h : a.length = b.length) (i : Nat) (hi : i ≤ a.length) : (mixV a b i).length = a.length := by
  simp [mixV, subV_length a b h]; omega
theorem mixV_rd (a b : List Int) (h : a.length = b.length) (i : Nat) (hi : i < a.length) : rd (mixV a b i) i = rd a i := by
  have h1 : ((subV a b).take i).length = i := by simp [subV_length a b h]; omega
  simp only [rd, mixV, Int.toNat_natCast, List.getD_eq_getElem?_getD]
  rw [List.getElem?_append_right (by omega), h1]
  simp
theorem mixV_set (a b : List Int) (h : a.length = b.length) (i : Nat) (hi : i < a.length) : (mixV a b i).set i (rd a i - rd b i) = mixV a b (i + 1) := by
  have h1 : ((subV a b).take i).length = i := by simp [subV_length a b h]; omega
  unfold mixV
  rw [List.set_append_right _ _ (by omega), h1, Nat.sub_self]
  have h2 : a.drop i = a[i] :: a.drop (i + 1) := by simp
  rw [h2, List.set_cons_zero, List.take_succ_eq_append_getElem (by rw [subV_length a b h]; exact hi)]
  have h3 : (subV a b)[i]'(by rw [subV_length a b h]; exact hi) = rd a i - rd b i := by
    rw [← rd_subV a b h i hi]; simp [rd, subV_length a b h, hi]
  rw [h3]; simp
theorem sub_loop (a b : List Int) (h : a.length = b.length) (ha : ∀ x ∈ a, -1000 ≤ x ∧ x ≤ 1000) (hb : ∀ x ∈ b, -1000 ≤ x ∧ x ≤ 1000) (hn : a.length ≤ 32) (d : Nat) : ∀ (k i : Nat), i + d = a.length → d < k →
    vector_Sub.l0 k b (mixV a b i) (a.length : Int) i = some (subV a b) := by
  induction d with
  | zero =>
    intro k i hi hk
    obtain ⟨k, rfl⟩ : ∃ m, k = m + 1 := ⟨k - 1, by omega⟩
    simp only [vector_Sub.l0]
    rw [if_neg (by omega)]
    have e : i = a.length := by omega
    rw [e]
    have := subV_length a b h
    simp [mixV, ← this]
  | succ d ih =>
    intro k i hi hk
    obtain ⟨k, rfl⟩ : ∃ m, k = m + 1 := ⟨k - 1, by omega⟩
    have hlt : i < a.length := by omega
    have hl := mixV_length a b h i (by omega)
    simp only [vector_Sub.l0]
    have hA := ha _ (rd_mem (l := a) (i := i) (by omega) (by omega))
    have hB := hb _ (rd_mem (l := b) (i := i) (by omega) (by omega))
    rw [if_pos (by omega), if_pos (by omega), if_pos (by omega), if_pos (by omega), mixV_rd a b h i hlt, w64 (by omega), w64 (by omega), Int.toNat_natCast, mixV_set a b h i hlt]
    exact ih k (i + 1) (by omega) (by omega)
theorem sub_f (a b : List Int) (h : alikeF a b = true) (k : Nat) (hk : 40 ≤ k) : vector_Sub.f k a b = some (subV a b) := by
  obtain ⟨hl, h1, h2⟩ := alikeF_iff.1 h
  obtain ⟨ha, ha1, ha2⟩ := validV_iff.1 h1
  obtain ⟨hb, _, _⟩ := validV_iff.1 h2
  unfold vector_Sub.f slices_Clone_int_int.f
  rw [if_pos (by omega)]
  simp only [Option.bind_some]
  have := sub_loop a b hl ha hb ha2 a.length k 0 (by omega) (by omega)
  simpa [mixV] using this
def keyV (m : Int) (a b : List Int) : Int := normF m (subV a b)
theorem subV_small (a b : List Int) (ha : ∀ x ∈ a, -1000 ≤ x ∧ x ≤ 1000) (hb : ∀ x ∈ b, -1000 ≤ x ∧ x ≤ 1000) : ∀ x ∈ subV a b, small x := by
  intro x hx
  unfold subV at hx
  rw [List.mem_iff_getElem] at hx
  obtain ⟨i, hi, rfl⟩ := hx
  simp at hi
  have h1 := ha _ (List.getElem_mem (l := a) (n := i) (by omega))
  have h2 := hb _ (List.getElem_mem (l := b) (n := i) (by omega))
  simp only [List.getElem_zipWith]
  unfold small
  omega
theorem key_f (m : Int) (hm : 1 ≤ m ∧ m ≤ 3) (a b : List Int) (h : alikeF a b = true) (k : Nat) (hk : 40 ≤ k) : vector_Key.f k m a b = some (keyV m a b) := by
  obtain ⟨hl, h1, h2⟩ := alikeF_iff.1 h
  obtain ⟨ha, ha1, ha2⟩ := validV_iff.1 h1
  obtain ⟨hb, _, _⟩ := validV_iff.1 h2
  unfold vector_Key.f
  rw [sub_f a b h k hk]
  simp only [Option.bind_some]
  unfold vector_Norm.f
  rw [if_pos]
  · rfl
  · refine ⟨by omega, ?_, by rw [subV_length a b hl]; omega⟩
    unfold smallB
    rw [List.all_eq_true]
    intro x hx
    have := subV_small a b ha hb x hx
    simpa [small] using this
theorem keyV_bd (m : Int) (a b : List Int) (h : alikeF a b = true) : 0 ≤ keyV m a b ∧ keyV m a b ≤ 134217728 := by
  obtain ⟨hl, h1, h2⟩ := alikeF_iff.1 h
  obtain ⟨ha, ha1, ha2⟩ := validV_iff.1 h1
  obtain ⟨hb, _, _⟩ := validV_iff.1 h2
  have h3 := normF_bd m (subV a b) (subV_small a b ha hb)
  rw [subV_length a b hl] at h3
  unfold keyV
  omega
def keysV (m : Int) (l : List (List Int)) (v : List Int) : List Int := l.map fun x => keyV m x v
theorem keysV_length (m : Int) (l : List (List Int)) (v : List Int) : (keysV m l v).length = l.length := by simp [keysV]
theorem rdL_mem {l : List (List Int)} {i : Int} (h0 : 0 ≤ i) (h1 : i < l.length) : rdL l i ∈ l := by
  unfold rdL
  rw [List.getD_eq_getElem?_getD, List.getElem?_eq_getElem (by omega)]
  exact List.getElem_mem _
theorem keysV_take_succ (m : Int) (l : List (List Int)) (v : List Int) (i : Nat) (h : i < l.length) : keysV m (l.take (i + 1)) v = keysV m (l.take i) v ++ [keyV m (rdL l i) v] := by
  unfold keysV
  rw [List.take_succ_eq_append_getElem h, List.map_append]; simp [rdL, h]
theorem rd_keysV (m : Int) (l : List (List Int)) (v : List Int) (i : Int) (h0 : 0 ≤ i) (h : i < l.length) : rd (keysV m l v) i = keyV m (rdL l i) v := by
  obtain ⟨n, rfl⟩ := Int.eq_ofNat_of_zero_le h0
  simp only [rd, rdL, keysV, Int.toNat_natCast, List.getD_eq_getElem?_getD]
  have hn : n < l.length := by omega
  rw [List.getElem?_eq_getElem (by simpa using hn), List.getElem?_eq_getElem hn]
  simp
theorem keys_loop (m : Int) (hm : 1 ≤ m ∧ m ≤ 3) (l : List (List Int)) (v : List Int) (hl : ∀ x ∈ l, alikeF x v = true) (hn : l.length ≤ 4096) (d : Nat) : ∀ (k i : Nat), i + d = l.length → d + 40 < k →
    graph_space_keys.l0 k v (keysV m (l.take i) v) l (l.length : Int) i m l = some (keysV m l v) := by
  induction d with
  | zero =>
    intro k i hi hk
    obtain ⟨k, rfl⟩ : ∃ m, k = m + 1 := ⟨k - 1, by omega⟩
    simp only [graph_space_keys.l0]
    rw [if_neg (by omega), List.take_of_length_le (by omega)]
  | succ d ih =>
    intro k i hi hk
    obtain ⟨k, rfl⟩ : ∃ m, k = m + 1 := ⟨k - 1, by omega⟩
    have hlt : i < l.length := by omega
    simp only [graph_space_keys.l0]
    have hk1 := key_f m hm (rdL l i) v (hl _ (rdL_mem (by omega) (by omega))) k (by omega)
    rw [if_pos (by omega), if_pos (by omega), if_pos (by omega)]
    change Option.bind (vector_Key.f k m (rdL l i) v) _ = _
    rw [hk1]
    simp only [Option.bind_some]
    have hlen : (keysV m (l.take i) v).length < 17592186044416 := by rw [keysV_length]; simp; omega
    rw [if_pos hlen, w64 (by omega), ← keysV_take_succ m l v i hlt]
    exact ih k (i + 1) (by omega) (by omega)
theorem keys_f (m : Int) (hm : 1 ≤ m ∧ m ≤ 3) (l : List (List Int)) (v : List Int) (hl : ∀ x ∈ l, alikeF x v = true) (hn : l.length ≤ 4096) (k : Nat) (hk : l.length + 41 ≤ k) :
    graph_space_keys.f k m l v = some (keysV m l v) := by
  unfold graph_space_keys.f
  have := keys_loop m hm l v hl hn l.length k 0 (by omega) (by omega)
  simpa [keysV] using this
def aroundTo (keys : List Int) (t : Int) : Nat → List Int
  | 0 => []
  | n + 1 => if rd keys n ≤ t then aroundTo keys t n ++ [(n : Int)] else aroundTo keys t n
def aroundV (keys : List Int) (t : Int) : List Int := aroundTo keys t keys.length
theorem aroundTo_length (keys : List Int) (t : Int) (n : Nat) : (aroundTo keys t n).length ≤ n := by
  induction n with
  | zero => simp [aroundTo]
  | succ n ih =>
    simp only [aroundTo]
    split
    · simp; omega
    · omega
theorem around_loop (keys : List Int) (t : Int) (hn : keys.length ≤ 4096) (d : Nat) : ∀ (k i : Nat), i + d = keys.length → d < k →
    graph_around.l0 k t (aroundTo keys t i) keys (keys.length : Int) i = some (aroundV keys t) := by
  induction d with
  | zero =>
    intro k i hi hk
    obtain ⟨k, rfl⟩ : ∃ m, k = m + 1 := ⟨k - 1, by omega⟩
    simp only [graph_around.l0]
    rw [if_neg (by omega)]
    have e : i = keys.length := by omega
    rw [e]; rfl
  | succ d ih =>
    intro k i hi hk
    obtain ⟨k, rfl⟩ : ∃ m, k = m + 1 := ⟨k - 1, by omega⟩
    have hlt : i < keys.length := by omega
    have hb := aroundTo_length keys t i
    have ih' := ih k (i + 1) (by omega) (by omega)
    simp only [graph_around.l0]
    rw [if_pos (by omega), if_pos (by omega), if_pos (by omega), w64 (by omega)]
    simp only [aroundTo] at ih'
    split at ih'
    · rename_i hc
      rw [if_pos hc, if_pos (by omega)]
      exact ih'
    · rename_i hc
      rw [if_neg hc]
      exact ih'
theorem around_f (keys : List Int) (t : Int) (hn : keys.length ≤ 4096) (k : Nat) (hk : keys.length + 1 ≤ k) : graph_around.f k keys t = some (aroundV keys t) := by
  unfold graph_around.f
  have := around_loop keys t hn keys.length k 0 (by omega) (by omega)
  simpa [aroundTo] using this
theorem rightF_iff {m : Int} {l : List (List Int)} : rightF m l = true ↔ (1 ≤ m ∧ m ≤ 3) ∧ (1 ≤ l.length ∧ l.length ≤ 4096) ∧ ∀ v ∈ l, alikeF (rdL l 0) v = true := by
  simp only [rightF, Bool.and_eq_true, decide_eq_true_eq, Bool.not_eq_true', List.any_eq_false, oddF, Bool.not_eq_true, Bool.not_eq_false']
  constructor
  · rintro ⟨h1, h2, h3⟩
    exact ⟨h1, h2, fun v hv => by simpa using h3 v hv⟩
  · rintro ⟨h1, h2, h3⟩
    exact ⟨h1, h2, fun v hv => by simpa using h3 v hv⟩
theorem alike_trans {a b c : List Int} (h : alikeF a b = true) (k : alikeF a c = true) : alikeF b c = true := by
  rw [alikeF_iff] at *
  exact ⟨by omega, h.2.2, k.2.2⟩
end Go.Proofs.YthbkomkgciemiaaGreat.PKF
namespace Go.Proofs.YthbkomkgciemiaaGreat.RF
open Go Go.RowKit
variable {P : Program}
structure Stir (h n : Nat) (A B : World) : Prop where
  below : Below h A B
  mid : ∀ k, n ≤ k → k < A.heap.size → B.heap[k]? = A.heap[k]?
def Firm {β : Type} (h n : Nat) (J : β → World → Prop) : Prop := ∀ s A B, J s A → Stir h n A B → J s B
structure StirR (h n r : Nat) (A B : World) : Prop where
  below : Below h A B
  mid : ∀ k, n ≤ k → k < A.heap.size → k ≠ r → k ≠ r + 1 → B.heap[k]? = A.heap[k]?
def FirmR {β : Type} (h n r : Nat) (J : β → World → Prop) : Prop := ∀ s A B, J s A → StirR h n r A B → J s B
theorem Stir.refl (h n : Nat) (A : World) : Stir h n A A := ⟨Below.refl _ _, fun _ _ _ => rfl⟩
theorem Stir.trans {h n : Nat} {A B C : World} (x : Stir h n A B) (y : Stir h n B C) : Stir h n A C :=
  ⟨x.below.trans y.below, fun k hk hl => (y.mid k hk (Nat.lt_of_lt_of_le hl x.below.size)).trans (x.mid k hk hl)⟩
theorem Stir.of_below {h n : Nat} {A B : World} (x : Below A.heap.size A B) (hh : h ≤ A.heap.size) : Stir h n A B := ⟨x.mono hh, fun k _ hl => x.block k hl⟩
theorem Stir.set {h n : Nat} {A : World} {p : Addr} (hp : h ≤ p.block) (hn : p.block < n) (v : Value) : Stir h n A (A.setCell p v) :=
  ⟨(Below.refl h A).setCell hp v, fun k hk _ => Below.heap_setCell _ _ _ _ (by omega)⟩
theorem putObj_below {B l : Nat} (W : World) (o : Obj) (h : B ≤ l) : Below B W (W.putObj l o) :=
  ⟨rfl, rfl, rfl, by simp, fun k hk => World.putObj_heap_other (by omega)⟩
def SeqC {α : Type} (P : Program) (g : Nat) (lb : Array Value) (h n : Nat) (encs : α → Array Value) (xs : List α) (w : World) : Prop :=
  ∀ (l : Nat) (J Jx : List α → World → Prop) (W : World), Below n w W → Firm h n J → Firm h n Jx →
    (∀ pre x rest A, xs = pre ++ x :: rest → J pre A → YieldAt Fence.wide 0 P l (encs x) A fun e A' =>
       Below n A A' ∧ ((e = .returned (.bool true) ∧ J (pre ++ [x]) A') ∨ (e = .returned (.bool false) ∧ Jx (pre ++ [x]) A'))) →
    J [] W →
    CallsIn Fence.wide 0 P g (#[.func (.yield l) #[] #[]] ++ lb) W fun e W' => (∃ v, e = .returned v) ∧ Below h W W' ∧ (J xs W' ∨ ∃ pre, pre <+: xs ∧ Jx pre W')
def postB {β : Type} (n r : Nat) (I : β → World → Prop) (Ix : Code → β → World → Prop) (s : β) (A : World) : Exit → Act → World → Prop
  | .normal, _, B => (Below n A B ∧ B.heap[r]? = A.heap[r]? ∧ B.heap[r + 1]? = A.heap[r + 1]?) ∧ I s B
  | .ret, _, B => (Below n A B ∧ B.heap[r]? = A.heap[r]? ∧ B.heap[r + 1]? = A.heap[r + 1]?) ∧ Ix .ret s B
  | .exit id, _, B => (Below n A B ∧ B.heap[r]? = A.heap[r]? ∧ B.heap[r + 1]? = A.heap[r + 1]?) ∧ Ix (.exit id) s B
  | .goto t, _, B => (Below n A B ∧ B.heap[r]? = A.heap[r]? ∧ B.heap[r + 1]? = A.heap[r + 1]?) ∧ Ix (.goto t) s B
  | _, _, _ => False
theorem wp_range {α : Type} {g : Operand} {ps : Array Tmp} {assign body : Code} {Q : Exit → Act → World → Prop} {a : Act} {w : World}
    {gf : Nat} {lb : Array Value} (hg : a.eval g = .func (.func gf) #[] lb) (eg : ∀ args w, (callFunc gf args).run P w = .ok (.enter gf args) w)
    {h n : Nat} {encs : α → Array Value} {xs : List α} {w0 : World} (hseq : SeqC P gf lb h n encs xs w0) (hb0 : Below n w0 w) (hn : n ≤ w.heap.size) (hh : h ≤ n)
    (hps : ∀ x, (encs x).size = ps.size)
    (I : List α → World → Prop) (Ix : Code → List α → World → Prop) (hI : FirmR h n w.heap.size I) (hIx : ∀ c, FirmR h n w.heap.size (Ix c)) (h0 : I [] w)
    (Ax : α → Act → World → Prop) (hAx : ∀ x a', FirmR h n w.heap.size (fun (_ : Unit) W => Ax x a' W))
    (hassign : ∀ (l : Nat) (pre : List α) (x : α) (rest : List α) (A : World) (K : Act → World → Prop), xs = pre ++ x :: rest → I pre A → w.heap.size + 2 ≤ A.heap.size → Below h w A →
      (∀ a' A', Below A.heap.size A A' → Ax x a' A' → K a' A') →
      assign.wpIn (Fence.wide.inRound l) 0 P (Exit.then K (fun _ _ _ => False)) { tmps := (ps.zip (encs x)).foldl (fun t (p, v) => t.setIfInBounds p v) a.tmps, defers := [] } A)
    (hbody : ∀ (l : Nat) (pre : List α) (x : α) (rest : List α) (a' : Act) (A : World), xs = pre ++ x :: rest → I pre A → Ax x a' A → w.heap.size + 2 ≤ A.heap.size → Below h w A →
      body.wpIn (Fence.wide.inRound l) 0 P (postB n w.heap.size I Ix (pre ++ [x]) A) a' A)
    (hdone : ∀ (W : World), I xs W → Below h w W → W.heap[w.heap.size]? = some (.deferred (some [])) → Q .normal { a with defers := { target := .collected w.heap.size, args := #[] } :: a.defers } W)
    (hstop : ∀ (c : Code) (pre : List α) (W : World), pre <+: xs → Ix c pre W → Below h w W → W.heap[w.heap.size]? = some (.deferred (some [])) →
      c.wpIn Fence.wide 0 P Q { a with defers := { target := .collected w.heap.size, args := #[] } :: a.defers } W) :
    (Code.rangeFunc g ps assign body).wpIn Fence.wide 0 P Q a w := by
  have hIP : ∀ {s : List α} {A : World} (l : Nat) (o : Obj), (l = w.heap.size ∨ l = w.heap.size + 1) → I s A → I s (A.putObj l o) := fun l o hl hs =>
    hI _ _ _ hs ⟨putObj_below _ _ (by omega), fun k _ _ h1 h2 => World.putObj_heap_other (by omega)⟩
  have hIxP : ∀ {c : Code} {s : List α} {A : World} (l : Nat) (o : Obj), (l = w.heap.size ∨ l = w.heap.size + 1) → Ix c s A → Ix c s (A.putObj l o) := fun l o hl hs =>
    hIx _ _ _ _ hs ⟨putObj_below _ _ (by omega), fun k _ _ h1 h2 => World.putObj_heap_other (by omega)⟩
  have hAxP : ∀ {x : α} {a' : Act} {A : World} (l : Nat) (o : Obj), (l = w.heap.size ∨ l = w.heap.size + 1) → Ax x a' A → Ax x a' (A.putObj l o) := fun l o hl hs =>
    hAx _ _ () _ _ hs ⟨putObj_below _ _ (by omega), fun k _ _ h1 h2 => World.putObj_heap_other (by omega)⟩
  refine wpIn_rangeFunc ?_
  intro fn hfn
  rw [show Fence.wide.round = none from rfl]
  obtain ⟨rec, hrec⟩ : ∃ rec : LoopState → Option Code → Loop, rec = fun st pe => { state := st, pending := pe, fn, tmps := a.tmps, params := ps, assign, body, defers := w.heap.size } := ⟨_, rfl⟩
  obtain ⟨W1, hW1⟩ : ∃ W1, (w.alloc (.deferred (some []))).alloc (.loop (rec .ready none)) = W1 := ⟨_, rfl⟩
  have hL1 : W1.heap[w.heap.size + 1]? = some (.loop (rec .ready none)) := by
    rw [← hW1]; have := World.alloc_heap_new (w.alloc (.deferred (some []))) (.loop (rec .ready none)); rwa [World.size_alloc] at this
  have hK1 : W1.heap[w.heap.size]? = some (.deferred (some [])) := by
    rw [← hW1]; exact (Below.heap_alloc _ _ _ (by simp)).trans (World.alloc_heap_new w _)
  have hwW : Below w.heap.size w W1 := by rw [← hW1]; exact ((Below.refl _ w).alloc (Nat.le_refl _) _).alloc (by simp) _
  have hI1 : I [] W1 := hI _ _ _ h0 ⟨hwW.mono (by omega), fun k _ hk _ _ => hwW.block k hk⟩
  refine ⟨w.heap.size + 1, [{ target := .collected w.heap.size, args := #[] }], W1, { target := .fn (.func gf) lb, args := #[.func (.yield (w.heap.size + 1)) #[] #[]] }, W1, gf,
    #[.func (.yield (w.heap.size + 1)) #[] #[]] ++ lb, W1, ?_, ?_, ?_, ?_, fun hd => by simp [Fence.wide] at hd, ?_⟩
  · rw [← hW1, hrec]; exact run_enterLoop_outer _ _ _ _ _
  · simp only [resolve, hg]
    simp [go_sem]
  · intro f' hf'; trivial
  · simp [invoke, go_sem, eg]
  · refine (hseq (w.heap.size + 1)
      (fun pre W => I pre W ∧ W.heap[w.heap.size + 1]? = some (.loop (rec .ready none)) ∧ W.heap[w.heap.size]? = some (.deferred (some [])) ∧ Below h w W)
      (fun pre W => ∃ c, Ix c pre W ∧ W.heap[w.heap.size + 1]? = some (.loop (rec .done (some c))) ∧ W.heap[w.heap.size]? = some (.deferred (some [])) ∧ Below h w W)
      W1 (hb0.trans (hwW.mono hn)) ?_ ?_ ?_ ⟨hI1, hL1, hK1, hwW.mono (by omega)⟩).mono ?_
    · rintro s A B ⟨h1, h2, h3, h4⟩ ⟨hb, hm⟩
      exact ⟨hI _ _ _ h1 ⟨hb, fun k hk hl _ _ => hm k hk hl⟩, (hm _ (by omega) (Array.getElem?_eq_some_iff.1 h2).1).trans h2, (hm _ (by omega) (Array.getElem?_eq_some_iff.1 h3).1).trans h3, h4.trans hb⟩
    · rintro s A B ⟨c, h1, h2, h3, h4⟩ ⟨hb, hm⟩
      exact ⟨c, hIx _ _ _ _ h1 ⟨hb, fun k hk hl _ _ => hm k hk hl⟩, (hm _ (by omega) (Array.getElem?_eq_some_iff.1 h2).1).trans h2, (hm _ (by omega) (Array.getElem?_eq_some_iff.1 h3).1).trans h3, h4.trans hb⟩
    · rintro pre x rest A hxs ⟨hi, hl, hk, hb⟩
      have hlt : w.heap.size + 1 < A.heap.size := (Array.getElem?_eq_some_iff.1 hl).1
      have hy := run_yield (P := P) (args := encs x) hl (by rw [hrec]; exact hps x)
      rw [hrec] at hy
      refine ⟨fn, _, assign, body, hy, roundIn_of_wpIn hfn (hassign _ pre x rest A _ hxs hi (by omega) hb ?_)⟩
      clear hy
      intro a' A' hba hax
      have hlA : A'.heap[w.heap.size + 1]? = some (.loop (rec .ready none)) := (hba.block _ hlt).trans hl
      have hkA : A'.heap[w.heap.size]? = some (.deferred (some [])) := (hba.block _ (by omega)).trans hk
      have hiA : I pre A' := hI _ _ _ hi ⟨hba.mono (by omega), fun k _ hk _ _ => hba.block k hk⟩
      have hltA : w.heap.size + 1 < A'.heap.size := (Array.getElem?_eq_some_iff.1 hlA).1
      refine ⟨_, run_beginRound hlA (by rw [hrec]), ?_⟩
      have hl2 : (A'.putObj (w.heap.size + 1) (.loop { rec .ready none with state := .busy })).heap[w.heap.size + 1]? = some (.loop { rec .ready none with state := .busy }) := World.putObj_heap_same hltA
      have hk2 : (A'.putObj (w.heap.size + 1) (.loop { rec .ready none with state := .busy })).heap[w.heap.size]? = some (.deferred (some [])) := (World.putObj_heap_other (by omega)).trans hkA
      have hbA : Below n A (A'.putObj (w.heap.size + 1) (.loop { rec .ready none with state := .busy })) := (hba.mono (by omega)).trans (putObj_below _ _ (by omega))
      refine wpIn_mono (hbody _ pre x rest a' _ hxs (hIP _ _ (.inr rfl) hiA) (hAxP _ _ (.inr rfl) hax) (by simp; omega) (hb.trans (hbA.mono hh))) ?_
      have fin : ∀ (jump : Option Code) (W3 : World), (Below n (A'.putObj (w.heap.size + 1) (.loop { rec .ready none with state := .busy })) W3 ∧ W3.heap[w.heap.size]? = (A'.putObj (w.heap.size + 1) (.loop { rec .ready none with state := .busy })).heap[w.heap.size]? ∧ W3.heap[w.heap.size + 1]? = (A'.putObj (w.heap.size + 1) (.loop { rec .ready none with state := .busy })).heap[w.heap.size + 1]?) →
          (Instr.endRound (w.heap.size + 1) jump).run P W3 = .ok (.bool jump.isNone) (W3.putObj (w.heap.size + 1) (.loop (rec (if jump.isNone then .ready else .done) jump))) ∧
          Below n A (W3.putObj (w.heap.size + 1) (.loop (rec (if jump.isNone then .ready else .done) jump))) ∧
          (W3.putObj (w.heap.size + 1) (.loop (rec (if jump.isNone then .ready else .done) jump))).heap[w.heap.size + 1]? = some (.loop (rec (if jump.isNone then .ready else .done) jump)) ∧
          (W3.putObj (w.heap.size + 1) (.loop (rec (if jump.isNone then .ready else .done) jump))).heap[w.heap.size]? = some (.deferred (some [])) := fun jump W3 hk3 => by
        obtain ⟨hb3, hr3, hl3'⟩ := hk3
        have hl3 := hl3'.trans hl2
        have := run_endRound (P := P) jump hl3
        rw [hrec] at this ⊢
        exact ⟨this, (hbA.trans hb3).trans (putObj_below _ _ (by omega)), World.putObj_heap_same (Array.getElem?_eq_some_iff.1 hl3).1, (World.putObj_heap_other (by omega)).trans (hr3.trans hk2)⟩
      rintro e a3 W3 hp
      cases e with
      | normal =>
        obtain ⟨hk3, hi3⟩ := hp
        obtain ⟨hr, hb4, hl4, hk4⟩ := fin none W3 hk3
        exact ⟨_, _, hr, hb4, .inl ⟨rfl, hIP _ _ (.inr rfl) hi3, hl4, hk4, hb.trans (hb4.mono hh)⟩⟩
      | ret =>
        obtain ⟨hk3, hi3⟩ := hp
        obtain ⟨hr, hb4, hl4, hk4⟩ := fin (some .ret) W3 hk3
        exact ⟨_, _, hr, hb4, .inr ⟨rfl, .ret, hIxP _ _ (.inr rfl) hi3, hl4, hk4, hb.trans (hb4.mono hh)⟩⟩
      | exit id =>
        obtain ⟨hk3, hi3⟩ := hp
        obtain ⟨hr, hb4, hl4, hk4⟩ := fin (some (.exit id)) W3 hk3
        exact ⟨_, _, hr, hb4, .inr ⟨rfl, .exit id, hIxP _ _ (.inr rfl) hi3, hl4, hk4, hb.trans (hb4.mono hh)⟩⟩
      | goto t =>
        obtain ⟨hk3, hi3⟩ := hp
        obtain ⟨hr, hb4, hl4, hk4⟩ := fin (some (.goto t)) W3 hk3
        exact ⟨_, _, hr, hb4, .inr ⟨rfl, .goto t, hIxP _ _ (.inr rfl) hi3, hl4, hk4, hb.trans (hb4.mono hh)⟩⟩
      | panic ch => exact hp.elim
      | outgrown => exact hp.elim
    · rintro e W2 ⟨⟨v, rfl⟩, hbW, (⟨hi, hl, hk, hb⟩ | ⟨pre, hpre, c, hi, hl, hk, hb⟩)⟩
      · exact ⟨none, _, by have := run_endLoop (P := P) hl (by rw [hrec]; simp); rw [hrec] at this; exact this, hdone _ (hIP _ _ (.inr rfl) hi) (hb.trans (putObj_below _ _ (by omega))) ((World.putObj_heap_other (by omega)).trans hk)⟩
      · exact ⟨some c, _, by have := run_endLoop (P := P) hl (by rw [hrec]; simp); rw [hrec] at this; exact this, hstop c pre _ hpre (hIxP _ _ (.inr rfl) hi) (hb.trans (putObj_below _ _ (by omega))) ((World.putObj_heap_other (by omega)).trans hk)⟩
end Go.Proofs.YthbkomkgciemiaaGreat.RF
namespace Go.Proofs.YthbkomkgciemiaaGreat.PKF
open Go.Proofs.YthbkomkgciemiaaGreat.RF
open Go.RowKit Go.Proofs.YthbkomkgciemiaaGreatW.PrintWords Go.Proofs.YthbkomkgciemiaaGreatW.PrintLast Go.Proofs.YthbkomkgciemiaaGreatW.PrintMore
attribute [local go_sem] max2_int min2_int max_two min_two max_three min_three max_four min_four
set_option linter.unusedVariables false
set_option linter.unusedSimpArgs false
attribute [local go_sem] Oper.semAt_some
def encI (x : Int) : Array Value := #[.int .i64 x]
theorem split_at (l : List Int) (k : Nat) (h : k < l.length) : l = l.take k ++ rd l k :: l.drop (k + 1) := by
  have e : rd l k = l[k] := by simp [rd, h]
  rw [e, List.drop_eq_getElem_cons h |>.symm]; simp
theorem take_succ_rd (l : List Int) (k : Nat) (h : k < l.length) : l.take (k + 1) = l.take k ++ [rd l k] := by
  rw [List.take_succ_eq_append_getElem h]; simp [rd, h]
set_option maxHeartbeats 400000 in
set_option maxRecDepth 100000 in
theorem values_seq (A : Option Addr) (c : Nat) (xs : List Int) (w : World) (B : Nat) (hB : w.heap[B]? = some (.cells #[.slice A xs.length c] 26 (0, 0))) (hl : Kd.C (Kd.int .i64) w A xs.length xs) :
    SeqC Tryz.prog 71 #[.pointer (some ⟨B, 0, none⟩)] w.heap.size w.heap.size encI xs w := by
  intro l J Jx W hW hJ hJx hY h0
  have hm := Kd.C_max hl
  have hb1 : W.cell? ⟨B, 0, none⟩ = some (.slice A xs.length c) := by
    have := blk_below hB hW
    simp [World.cell?, this]
  have HL := Aside0.mk hl
  have HW := Aside0.mk hW
  clear hB hl hW
  refine callsIn_of_wp Tryz.func71 rfl trivial ?_ rfl
  simp only [Tryz.ntmps71, List.size_toArray, List.length_cons, List.length_nil, Nat.reduceAdd, Nat.reduceSub, Array.replicate_succ, Array.replicate_zero, List.push_toArray, List.append_toArray, List.nil_append, List.cons_append]
  gi_wp2
  gi_loopw [4, 7] (fun _ i wr => ∃ k : Nat, k ≤ xs.length ∧ i = .int .i64 k ∧ Aside0 (J (xs.take k) wr) ∧ Aside0 (Below w.heap.size W wr)) (fun _ i _ => xs.length - (intOf i).toNat)
  case atStart => exact ⟨0, Nat.zero_le _, rfl, ⟨h0⟩, ⟨Below.refl _ _⟩⟩
  case round =>
    obtain ⟨k, hk, rfl, HJ, HB⟩ := hrel
    by_cases hlt : k < xs.length
    · obtain ⟨ad, rfl, hc⟩ := Kd.at_int HL.out k (by omega) (by omega)
      simp only [Int.toNat_natCast] at hc
      have hlt2 := World.block_lt_of_cell? w _ hc
      have hc2 : wr.cell? (ad.add k) = some (.int .i64 (rd xs k)) := ((HW.out.trans HB.out).cell hlt2).trans hc
      obtain ⟨fn, tmps, assign, body, hy, hR⟩ := hY (xs.take k) (rd xs k) (xs.drop (k + 1)) wr (split_at xs k hlt) HJ.out
      simp only [encI] at hy
      have HR := Aside0.mk hR
      clear hR hc h0
      gi_wp2
      refine ⟨rfl, HR.out.mono ?_⟩
      rintro e W' ⟨hbB, ⟨rfl, hJ'⟩ | ⟨rfl, hJx'⟩⟩
      · have HB2 := Aside0.mk (HB.out.trans hbB)
        have HJ2 := Aside0.mk (show J (xs.take (k + 1)) W' by rw [take_succ_rd xs k hlt]; exact hJ')
        clear hbB hJ'
        gi_wp2
        go_roundw
        case rel => exact ⟨k + 1, by omega, by go_num, HJ2, HB2⟩
        case measure => simp [intOf]; omega
      · have HB2 := Aside0.mk (HB.out.trans hbB)
        have HJ2 := Aside0.mk (show Jx (xs.take (k + 1)) W' by rw [take_succ_rd xs k hlt]; exact hJx')
        clear hbB hJx'
        gi_wp2
        refine bodyPost_ret (results_none rfl _ _ _) rfl ?_
        exact ⟨⟨_, rfl⟩, HB2.out, .inr ⟨_, List.take_prefix _ _, HJ2.out⟩⟩
    · have HJ2 := Aside0.mk (show J xs wr by have := HJ.out; rwa [List.take_of_length_le (by omega)] at this)
      gi_wp2
      go_end0
      exact ⟨⟨_, rfl⟩, HB.out, .inl HJ2.out⟩
theorem own_move {w w1 : World} {base : Nat} {e : TypeId} {size : Nat} {v : Value} {n : Nat} {xs : List Value} (h : w.ownsRow base e size v n xs) (hm : ∀ k, base ≤ k → k < w.heap.size → w1.heap[k]? = w.heap[k]?) : w1.ownsRow base e size v n xs := by
  obtain ⟨h1, h2⟩ := h
  refine ⟨h1, ?_⟩
  rcases h2 with h2 | ⟨g, cap, cur, hv, hg, hh, r⟩
  · exact Or.inl h2
  · exact Or.inr ⟨g, cap, cur, hv, hg, by rw [hm g hg (Array.getElem?_eq_some_iff.1 hh).1]; exact hh, r⟩
theorem own_lower {w : World} {base base' : Nat} {e : TypeId} {size : Nat} {v : Value} {n : Nat} {xs : List Value} (h : w.ownsRow base e size v n xs) (hb : base' ≤ base) : w.ownsRow base' e size v n xs := by
  obtain ⟨h1, h2⟩ := h
  refine ⟨h1, ?_⟩
  rcases h2 with h2 | ⟨g, cap, cur, hv, hg, r⟩
  · exact Or.inl h2
  · exact Or.inr ⟨g, cap, cur, hv, by omega, r⟩
def RowI (Bs r : Nat) (pre : List Int) (A : World) : Prop := ∃ v, A.heap[Bs]? = some (.cells #[v] 26 (0, 0)) ∧ A.ownsRow (r + 2) 3 1 v pre.length (pre.map (Value.int .i64))
theorem rowI_firm (h n r Bs : Nat) (hn : n ≤ Bs) (hr : Bs < r) : FirmR h n r (RowI Bs r) := by
  rintro s A B ⟨v, hb, ho⟩ ⟨hbl, hm⟩
  exact ⟨v, (hm Bs hn (blk_lt hb) (by omega) (by omega)).trans hb, own_move ho fun k hk hl => hm k (by omega) hl (by omega) (by omega)⟩
theorem row_beside {A w1 : World} {Bs base : Nat} {o o' : Obj} {e : TypeId} {v : Value} {n : Nat} {xs : List Value} (hb : A.heap[Bs]? = some o) (ho : A.ownsRow base e 1 v n xs) (hlt : Bs < base) (hg : (A.alloc o').grownBy w1 v.ownBlock) : w1.heap[Bs]? = some o :=
  (hg.block Bs (by have := blk_lt hb; simp; omega) (fun h => by have := own_base ho Bs h.symm; omega)).trans (blk_alloc hb _)
theorem cell_of_blk {A : World} {B : Nat} {v : Value} {t : TypeId} (h : A.heap[B]? = some (.cells #[v] t (0, 0))) : A.cell? ⟨B, 0, none⟩ = some v := by simp [World.cell?, h]
theorem frozen_of_blk {A : World} {B : Nat} {v : Value} {t : TypeId} (h : A.heap[B]? = some (.cells #[v] t (0, 0))) : A.frozen? ⟨B, 0, none⟩ = false := by simp [World.frozen?, h]
theorem infoInt : (Tryz.prog.info? 3).map (fun i => (i.zero, i.size, i.bytes)) = some (some (.int .i64 0), 1, 8) := by kernel_rfl
set_option maxHeartbeats 1000000 in
set_option maxRecDepth 100000 in
theorem appendSeqC (gf : Nat) (lb : Array Value) (eg : ∀ args w, (callFunc gf args).run Tryz.prog w = .ok (.enter gf args) w) (h : Nat) (xs : List Int) (w0 w : World) (hseq : SeqC Tryz.prog gf lb h w0.heap.size encI xs w0) (hb : Below w0.heap.size w0 w) (hh : h ≤ w0.heap.size) (hx : xs.length < 17592186044416) :
    Calls Tryz.prog 56 #[.slice none 0 0, .func (.func gf) #[] lb] w fun e w' => ∃ v, e = .returned v ∧ w'.ownsRow w.heap.size 3 1 v xs.length (xs.map (Value.int .i64)) ∧ Below h w w' := by
  refine callsIn_wide (n := 0).1 ?_
  refine callsIn_of_wp_marks Tryz.func56 rfl trivial ?_ rfl
  simp only [Tryz.ntmps56, List.size_toArray, List.length_cons, List.length_nil, Nat.reduceAdd, Nat.reduceSub, Array.replicate_succ, Array.replicate_zero, List.push_toArray, List.append_toArray, List.nil_append, List.cons_append]
  have HS := Aside0.mk hseq
  have HB := Aside0.mk hb
  have HX := Aside0.mk hx
  have hsz := hb.size
  clear hseq hb hx
  gi_wp2
  have hsz1 : (w.alloc (.cells #[.slice none 0 0] 26)).heap.size = w.heap.size + 1 := by simp
  refine wp_range (gf := gf) (lb := lb) rfl eg HS.out (HB.out.trans (((Below.refl _ w).alloc (Nat.le_refl _) _).mono hsz)) (by omega) hh (fun _ => rfl)
    (RowI w.heap.size (w.heap.size + 1)) (fun _ _ _ => False) (by rw [hsz1]; exact rowI_firm _ _ _ _ hsz (by omega)) (fun _ _ _ _ hf _ => hf)
    ⟨_, blk_new _ _, own_nil _ _ _ _⟩
    (fun x a' _ => a' = { tmps := #[.slice none 0 0, .func (.func gf) #[] lb, .pointer (some ⟨w.heap.size, 0, none⟩), undef, .slice none 0 0, .int .i64 x, .func (.func gf) #[] lb, .int .i64 x, undef, undef, undef, undef, undef], defers := [] }) (fun _ _ _ _ _ hs _ => hs)
    ?assign ?body ?done ?stop
  case assign =>
    intro l pre x rest A K hxs hi hsz2 hb hK
    simp only [encI]
    gi_wp2
    exact hK _ _ (Below.refl _ _) rfl
  case body =>
    rintro l pre x rest a' A hxs ⟨v, hvb, hrow⟩ rfl hsz2 hb
    rw [hsz1] at hsz2 ⊢
    have hpl : pre.length < xs.length := by rw [hxs]; simp
    have HX2 := Aside0.mk (show pre.length < 17592186044416 from Nat.lt_trans hpl HX.out)
    have HV := Aside0.mk hvb
    have HR := Aside0.mk hrow
    have hc : A.cell? ⟨w.heap.size, 0, none⟩ = some v := by simp [World.cell?, hvb]
    have hf : A.frozen? ⟨w.heap.size, 0, none⟩ = false := by simp [World.frozen?, hvb]
    obtain ⟨i0, hi, hz0, hz1, hz2⟩ := info_parts infoInt
    clear hvb hrow hxs hpl hb
    gi_wp2_with (gi_at_builtin; refine wpListIn_append_own _ rfl _ _ 26 rfl (w.heap.size + 1 + 2) 3 i0 (.int .i64 0) 1 8 Tryz.underlying26 hi hz0 hz1 hz2 rfl (by decide) _ _ _ rfl (HR.out.alloc _) ⟨A.heap.size, 0, none⟩ 1 1 [.int .i64 x] rfl rfl (cell_one_new _ _ _) (by simp [Value.oneCell']) (by have := HX2.out; unfold maxLen; omega) (by have := HX2.out; omega) (by simp; omega) ?_; intro v' w1 hown' hgrow _; obtain ⟨g', cap', rfl⟩ := ownsRow_succ hown'; have HO := Aside0.mk hown'; have HG := Aside0.mk hgrow; have hv1 := row_beside HV.out HR.out (by omega) hgrow; have hc1 := cell_of_blk hv1; have hf1 := frozen_of_blk hv1; have HV1 := Aside0.mk hv1; clear hown' hgrow hv1)
    have hBA : Below w0.heap.size A w1 := (((Below.refl _ A).alloc (by omega) _)).grown HG.out (by simp; omega) (fun k e => by have := own_base HR.out k e; omega)
    have hsame : ∀ k, k < w.heap.size + 1 + 2 → k ≠ w.heap.size → (w1.setCell ⟨w.heap.size, 0, none⟩ (.slice (some ⟨g', 0, none⟩) (pre.length + 1) cap')).heap[k]? = A.heap[k]? := fun k hk hne => by
      rw [Below.heap_setCell _ _ _ _ hne, HG.out.block k (by simp; omega) (fun h => by have := own_base HR.out k h.symm; omega), Below.heap_alloc _ _ _ (by omega)]
    refine ⟨⟨hBA.setCell (p := ⟨w.heap.size, 0, none⟩) hsz _, hsame _ (by omega) (by omega), hsame _ (by omega) (by omega)⟩, _, blk_put HV1.out 0 _ rfl, ?_⟩
    have := ownsRow_setCell_below (a := ⟨w.heap.size, 0, none⟩) HO.out (by simp; omega) (.slice (some ⟨g', 0, none⟩) (pre.length + 1) cap')
    simpa using this
  case done =>
    rintro W ⟨v, hvb, hrow⟩ hb hK
    have hc := cell_of_blk hvb
    have HR := Aside0.mk hrow
    have HB2 := Aside0.mk (((Below.refl h w).alloc (Nat.le_trans hh hsz) _).trans hb)
    have HK := Aside0.mk hK
    clear hvb hrow hb hK
    gi_wp2
    refine ⟨by simp, .inl ⟨_, _, rfl, run_takeDeferred HK.out, ?_⟩⟩
    refine ⟨_, results_tmp rfl _ _ _, _, rfl, own_lower (own_move HR.out fun k hk hl => World.putObj_heap_other (by simp; omega)) (by omega), HB2.out.trans (putObj_below _ _ (by simp; omega))⟩
  case stop =>
    rintro c pre W _ hf
    exact hf.elim
set_option maxHeartbeats 400000 in
set_option maxRecDepth 100000 in
theorem collectC (gf : Nat) (lb : Array Value) (eg : ∀ args w, (callFunc gf args).run Tryz.prog w = .ok (.enter gf args) w) (h : Nat) (xs : List Int) (w0 w : World) (hseq : SeqC Tryz.prog gf lb h w0.heap.size encI xs w0) (hb : Below w0.heap.size w0 w) (hh : h ≤ w0.heap.size) (hx : xs.length < 17592186044416) :
    Calls Tryz.prog 31 #[.func (.func gf) #[] lb] w fun e w' => ∃ v, e = .returned v ∧ w'.ownsRow w.heap.size 3 1 v xs.length (xs.map (Value.int .i64)) ∧ Below h w w' := by
  have HC := Aside0.mk (appendSeqC gf lb eg h xs w0 w hseq hb hh hx)
  clear hseq hb hh hx eg
  go_enter Tryz.func31, Tryz.ntmps31
  go_wp2_with fail
  refine HC.out.mono ?_
  rintro e w' ⟨v, rfl, ho, hb⟩
  have HO := Aside0.mk ho
  have HB := Aside0.mk hb
  clear ho hb
  go_wp2
  go_ret
  exact ⟨_, rfl, HO.out, HB.out⟩
set_option maxHeartbeats 400000 in
set_option maxRecDepth 100000 in
theorem valuesC (A : Option Addr) (n c : Nat) (w : World) :
    Calls Tryz.prog 45 #[.slice A n c] w fun e w' => e = .returned (.func (.func 71) #[] #[.pointer (some ⟨w.heap.size, 0, none⟩)]) ∧ w' = w.alloc (.cells #[.slice A n c] 26) := by
  go_enter Tryz.func45, Tryz.ntmps45
  go_wp2
  go_ret
  exact ⟨rfl, rfl⟩
end Go.Proofs.YthbkomkgciemiaaGreat.PKF
