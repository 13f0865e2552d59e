/- Texts of this claim, merged: part 10. -/
import Derived.Test.YthbkomkgciemiaaGreatCF3
import Derived.Test.YthbkomkgciemiaaGreatCF9
import Derived.Test.YthbkomkgciemiaaGreatCF6
import Derived.Test.YthbkomkgciemiaaGreatCF8
import Derived.Test.YthbkomkgciemiaaGreatCF5
namespace Go.Proofs.YthbkomkgciemiaaGreat.PKF
open Go.RowKit Go.Proofs.YthbkomkgciemiaaGreatW.PrintWords Go.Proofs.YthbkomkgciemiaaGreatW.PrintLast Go.Proofs.YthbkomkgciemiaaGreatW.PrintMore
attribute [local go_sem] max2_int min2_int max_two min_two max_three min_three max_four min_four   -- for this text's walks alone
set_option linter.unusedVariables false
set_option linter.unusedSimpArgs false
def antiquaryref04_Alike.f (k : Nat) (l0 : List Int) (l1 : List Int) : Option (Bool) := (antiquaryref04_Valid.f k l0).bind fun t167 => (if t167 = true then ((antiquaryref04_Valid.f k l1).bind fun t168 => (if t168 = true then (some ((l0.length : Int) == (l1.length : Int))) else (some false))) else (some false))
set_option maxHeartbeats 8000000 in
set_option maxRecDepth 100000 in
theorem antiquaryref04_Alike.calls (k : Nat) (A0 : Option Addr) (c0 : Nat) (l0 : List Int) (A1 : Option Addr) (c1 : Nat) (l1 : List Int) (r : Bool) (w : World) (hr0 : Kd.C (Kd.int .i64) w A0 l0.length l0) (hc0 : l0.length ≤ c0) (hr1 : Kd.C (Kd.int .i64) w A1 l1.length l1) (hc1 : l1.length ≤ c1) (h : antiquaryref04_Alike.f k l0 l1 = some r) :
    Calls Tryz.prog 27 #[.slice A0 l0.length c0, .slice A1 l1.length c1] w fun e w' => e = .returned (.bool r) ∧ Drawn0 w w' := by
  have HR0 := Aside0.mk hr0
  have HC0 := Aside0.mk hc0
  clear hr0 hc0
  have HR1 := Aside0.mk hr1
  have HC1 := Aside0.mk hc1
  clear hr1 hc1
  have H : ((antiquaryref04_Valid.f k l0).bind fun t167 => (if t167 = true then ((antiquaryref04_Valid.f k l1).bind fun t168 => (if t168 = true then (some ((l0.length : Int) == (l1.length : Int))) else (some false))) else (some false))) = some r := h
  clear h
  replace H := Option.bind_eq_some_iff.mp H
  obtain ⟨t167, A30, H⟩ := H
  replace H : (if t167 = true then ((antiquaryref04_Valid.f k l1).bind fun t168 => (if t168 = true then (some ((l0.length : Int) == (l1.length : Int))) else (some false))) else (some false)) = some r := H
  have A3 := Aside0.mk A30
  clear A30
  by_cases c4 : t167 = true
  · subst c4
    have H1 : ((antiquaryref04_Valid.f k l1).bind fun t168 => (if t168 = true then (some ((l0.length : Int) == (l1.length : Int))) else (some false))) = some r := by rw [if_pos rfl] at H; exact H
    clear H
    have H := H1
    clear H1
    replace H := Option.bind_eq_some_iff.mp H
    obtain ⟨t168, A50, H⟩ := H
    replace H : (if t168 = true then (some ((l0.length : Int) == (l1.length : Int))) else (some false)) = some r := H
    have A5 := Aside0.mk A50
    clear A50
    by_cases c6 : t168 = true
    · subst c6
      have H1 : (some ((l0.length : Int) == (l1.length : Int))) = some r := by rw [if_pos rfl] at H; exact H
      clear H
      have H := H1
      clear H1
      obtain rfl := Option.some.inj H
      go_enter Tryz.func27, Tryz.ntmps27
      go_wp2_with (first | ((with_reducible refine gate_callee (f := 52) rfl ?_); refine goesL_ (some 6) rfl rfl Tryz.func52 (by kernel_rfl) rfl #[.slice A0 l0.length c0] rfl (by (try simp only [List.map_toArray, List.map_cons, List.map_nil]); first | done | rfl | (simp only [List.length_drop, List.length_take]; rfl)) ?_; (with_reducible refine (antiquaryref04_Valid.calls k _ _ l0 true _ ?side1 ?side2 A3.out).mono ?_); (case side1 => repeat (first | exact HR0.out | (with_reducible refine Kd.C_alloc ?_ _) | (with_reducible refine Kd.C_drewN ?_ _) | (with_reducible refine Kd.C_drew ?_))); (case side2 => exact HC0.out); rintro e w' ⟨rfl, ⟨nd, rfl⟩⟩; refine ⟨_, rfl, ?_⟩) | (go_at_call 52; (with_reducible refine (antiquaryref04_Valid.calls k _ _ l1 true _ ?side1 ?side2 A5.out).mono ?_); (case side1 => repeat (first | exact HR1.out | (with_reducible refine Kd.C_alloc ?_ _) | (with_reducible refine Kd.C_drewN ?_ _) | (with_reducible refine Kd.C_drew ?_))); (case side2 => exact HC1.out); rintro e w' ⟨rfl, ⟨nd, rfl⟩⟩))
      go_ret
      exact ⟨by first | rfl | (simp; done) | (simp [*]; done), by repeat (first | exact Drawn0.refl _ | apply Drawn0.step)⟩
    · replace c6 := Bool.eq_false_iff.mpr c6
      subst c6
      have H1 : (some false) = some r := by rw [if_neg (show ¬ (false = true) by decide)] at H; exact H
      clear H
      have H := H1
      clear H1
      obtain rfl := Option.some.inj H
      go_enter Tryz.func27, Tryz.ntmps27
      go_wp2_with (first | ((with_reducible refine gate_callee (f := 52) rfl ?_); refine goesL_ (some 6) rfl rfl Tryz.func52 (by kernel_rfl) rfl #[.slice A0 l0.length c0] rfl (by (try simp only [List.map_toArray, List.map_cons, List.map_nil]); first | done | rfl | (simp only [List.length_drop, List.length_take]; rfl)) ?_; (with_reducible refine (antiquaryref04_Valid.calls k _ _ l0 true _ ?side1 ?side2 A3.out).mono ?_); (case side1 => repeat (first | exact HR0.out | (with_reducible refine Kd.C_alloc ?_ _) | (with_reducible refine Kd.C_drewN ?_ _) | (with_reducible refine Kd.C_drew ?_))); (case side2 => exact HC0.out); rintro e w' ⟨rfl, ⟨nd, rfl⟩⟩; refine ⟨_, rfl, ?_⟩) | (go_at_call 52; (with_reducible refine (antiquaryref04_Valid.calls k _ _ l1 false _ ?side1 ?side2 A5.out).mono ?_); (case side1 => repeat (first | exact HR1.out | (with_reducible refine Kd.C_alloc ?_ _) | (with_reducible refine Kd.C_drewN ?_ _) | (with_reducible refine Kd.C_drew ?_))); (case side2 => exact HC1.out); rintro e w' ⟨rfl, ⟨nd, rfl⟩⟩))
      go_ret
      exact ⟨by first | rfl | (simp; done) | (simp [*]; done), by repeat (first | exact Drawn0.refl _ | apply Drawn0.step)⟩
  · replace c4 := Bool.eq_false_iff.mpr c4
    subst c4
    have H1 : (some false) = some r := by rw [if_neg (show ¬ (false = true) by decide)] at H; exact H
    clear H
    have H := H1
    clear H1
    obtain rfl := Option.some.inj H
    go_enter Tryz.func27, Tryz.ntmps27
    go_wp2_with (first | ((with_reducible refine gate_callee (f := 52) rfl ?_); refine goesL_ (some 6) rfl rfl Tryz.func52 (by kernel_rfl) rfl #[.slice A0 l0.length c0] rfl (by (try simp only [List.map_toArray, List.map_cons, List.map_nil]); first | done | rfl | (simp only [List.length_drop, List.length_take]; rfl)) ?_; (with_reducible refine (antiquaryref04_Valid.calls k _ _ l0 false _ ?side1 ?side2 A3.out).mono ?_); (case side1 => repeat (first | exact HR0.out | (with_reducible refine Kd.C_alloc ?_ _) | (with_reducible refine Kd.C_drewN ?_ _) | (with_reducible refine Kd.C_drew ?_))); (case side2 => exact HC0.out); rintro e w' ⟨rfl, ⟨nd, rfl⟩⟩; refine ⟨_, rfl, ?_⟩))
    go_ret
    exact ⟨by first | rfl | (simp; done) | (simp [*]; done), by repeat (first | exact Drawn0.refl _ | apply Drawn0.step)⟩
def antiquaryref09_Metric.f (a0 : Int) : Option (Bool) := if a0 ≥ 1 then (some (decide (a0 ≤ 3))) else (some false)
set_option maxHeartbeats 8000000 in
set_option maxRecDepth 100000 in
theorem antiquaryref09_Metric.calls (a0 : Int) (r : Bool) (w : World) (h : antiquaryref09_Metric.f a0 = some r) :
    Calls Tryz.prog 16 #[.int .i64 a0] w fun e w' => e = .returned (.bool r) ∧ Drawn0 w w' := by
  have H : (if a0 ≥ 1 then (some (decide (a0 ≤ 3))) else (some false)) = some r := h
  clear h
  by_cases c2 : a0 ≥ 1
  · rw [if_pos c2] at H
    have c2b0 : decide (1 ≤ a0) = true := decide_eq_true c2
    clear c2
    obtain rfl := Option.some.inj H
    go_enter Tryz.func16, Tryz.ntmps16
    go_wp2
    go_ret
    exact ⟨by first | rfl | (simp; done) | (simp [*]; done), by repeat (first | exact Drawn0.refl _ | apply Drawn0.step)⟩
  · rw [if_neg c2] at H
    have c2b0 : decide (1 ≤ a0) = false := decide_eq_false c2
    clear c2
    obtain rfl := Option.some.inj H
    go_enter Tryz.func16, Tryz.ntmps16
    go_wp2
    go_ret
    exact ⟨by first | rfl | (simp; done) | (simp [*]; done), by repeat (first | exact Drawn0.refl _ | apply Drawn0.step)⟩
def antiquaryref09_Metric.Pure : Prop := ∀ (a0 : Int), (Lit.int .i64 a0).wf = true → antiquaryref09_Metric.f a0 = some true
theorem antiquaryref09_Metric.walk (P : antiquaryref09_Metric.Pure) (a0 : Int) (w : World) (w0 : (Lit.int .i64 a0).wf = true) :
    Calls Tryz.prog 16 #[.int .i64 a0] w fun e w' => e = .returned (.bool true) ∧ Below w.heap.size w w' := by
  have h := P a0 w0
  refine (antiquaryref09_Metric.calls a0 true w h).mono ?_
  rintro e w' ⟨rfl, hd⟩
  exact ⟨rfl, hd.below⟩
def antiquaryref27_has.l0 : Nat → List Int → Int → Int → Option (Bool)
  | 0, _, _, _ => none
  | k + 1, x0, x1, x5 => if x5 < (x0.length : Int) then (if 0 ≤ x5 then (if (rd x0 x5) = x1 then (some true) else (antiquaryref27_has.l0 k x0 x1 (wrap64 (x5 + 1)))) else (none)) else (some false)
def antiquaryref27_has.f (k : Nat) (l0 : List Int) (a1 : Int) : Option (Bool) := antiquaryref27_has.l0 k l0 a1 0
theorem antiquaryref27_has.mono_l : ∀ k, (∀ y0 y1 y2, LeO (antiquaryref27_has.l0 k y0 y1 y2) (antiquaryref27_has.l0 (k + 1) y0 y1 y2))
  | 0 => fun _ _ _ r h => by simp [antiquaryref27_has.l0] at h
  | k + 1 => by
    have ih0 := antiquaryref27_has.mono_l k
    · intro y0 y1 y2
      unfold antiquaryref27_has.l0
      repeat' first
      | (with_reducible exact ih0 _ _ _)
      | (with_reducible exact LeO.refl _)
      | (with_reducible exact LeO.none _)
      | (with_reducible refine LeO.ite ?_ ?_)
      | (with_reducible refine LeO.bind ?_ (fun _ => ?_))
      | exact ih0 _ _ _
      | exact LeO.none _
      | refine LeO.ite ?_ ?_
      | refine LeO.bind ?_ (fun _ => ?_)
theorem antiquaryref27_has.mono : ∀ a0 a1 k, LeO (antiquaryref27_has.f k a0 a1) (antiquaryref27_has.f (k + 1) a0 a1) := by
  intro a0 a1 k
  have ih0 := antiquaryref27_has.mono_l k
  unfold antiquaryref27_has.f
  repeat' first
      | (with_reducible exact ih0 _ _ _)
      | (with_reducible exact LeO.refl _)
      | (with_reducible exact LeO.none _)
      | (with_reducible refine LeO.ite ?_ ?_)
      | (with_reducible refine LeO.bind ?_ (fun _ => ?_))
      | exact ih0 _ _ _
      | exact LeO.none _
      | refine LeO.ite ?_ ?_
      | refine LeO.bind ?_ (fun _ => ?_)
set_option maxHeartbeats 8000000 in
set_option maxRecDepth 100000 in
theorem antiquaryref27_has.calls (k : Nat) (A0 : Option Addr) (c0 : Nat) (l0 : List Int) (a1 : Int) (r : Bool) (w : World) (hr0 : Kd.C (Kd.int .i64) w A0 l0.length l0) (hc0 : l0.length ≤ c0) (h : antiquaryref27_has.f k l0 a1 = some r) :
    Calls Tryz.prog 51 #[.slice A0 l0.length c0, .int .i64 a1] w fun e w' => e = .returned (.bool r) ∧ Drawn0 w w' := by
  have HR0 := Aside0.mk hr0
  have HC0 := Aside0.mk hc0
  clear hr0 hc0
  have H : (antiquaryref27_has.l0 k l0 a1 0) = some r := h
  clear h
  have H' := Aside0.mk H
  clear H
  go_enter Tryz.func51, Tryz.ntmps51
  go_wp2
  go_loopg [5] k (fun kq v5 w' => ∃ (x5_1 : Int), v5 = .int .i64 x5_1 ∧ Aside0 (antiquaryref27_has.l0 kq l0 a1 x5_1 = some r) ∧ Aside0 (kq ≤ k) ∧ Drawn0 w w')
  case atStart => exact ⟨(0), (by first | rfl | (simp; done) | (simp [*]; done)), H', ⟨Nat.le_refl _⟩, by repeat (first | exact Drawn0.refl _ | apply Drawn0.step)⟩
  case round =>
    clear H'
    try clear p2
    obtain ⟨x5_1, rfl, HA, HK1, ⟨m1, rfl⟩⟩ := hrel
    cases gk with
    | zero => exact absurd HA.out (by simp [antiquaryref27_has.l0])
    | succ k1 =>
      have H := HA.out
      clear HA
      simp only [antiquaryref27_has.l0] at H
      by_cases c3 : x5_1 < (l0.length : Int)
      · rw [if_pos c3] at H
        have c3b0 : decide (x5_1 < (l0.length : Int)) = true := decide_eq_true c3
        clear c3
        by_cases c4 : 0 ≤ x5_1
        · rw [if_pos c4] at H
          have c4b0 : decide (0 ≤ x5_1) = true := decide_eq_true c4
          clear c4
          by_cases c5 : (rd l0 x5_1) = a1
          · rw [if_pos c5] at H
            have c5b0 : ((rd l0 x5_1) == a1) = true := beq_iff_eq.mpr c5
            have c5b1 : ((rd l0 x5_1) != a1) = false := bne_eq_false_iff_eq.mpr c5
            clear c5
            obtain rfl := Option.some.inj H
            have p169 : 0 ≤ (x5_1 : Int) := of_decide_eq_true (by first | (with_reducible assumption) | assumption)
            have q169 : x5_1 < (l0.length : Int) := of_decide_eq_true (by first | (with_reducible assumption) | assumption)
            obtain ⟨ad169, e169, hx169_0⟩ := Kd.at_int HR0.out x5_1 p169 q169
            cases e169
            replace p169 := eq_true p169
            replace q169 := eq_true q169
            go_wp2
            go_ret
            exact ⟨by first | rfl | (simp; done) | (simp [*]; done), by repeat (first | exact Drawn0.refl _ | apply Drawn0.step)⟩
          · rw [if_neg c5] at H
            have c5b0 : ((rd l0 x5_1) == a1) = false := beq_eq_false_iff_ne.mpr c5
            have c5b1 : ((rd l0 x5_1) != a1) = true := bne_iff_ne.mpr c5
            have H' := Aside0.mk H
            clear H
            have p169 : 0 ≤ (x5_1 : Int) := of_decide_eq_true (by first | (with_reducible assumption) | assumption)
            have q169 : x5_1 < (l0.length : Int) := of_decide_eq_true (by first | (with_reducible assumption) | assumption)
            obtain ⟨ad169, e169, hx169_0⟩ := Kd.at_int HR0.out x5_1 p169 q169
            cases e169
            replace p169 := eq_true p169
            replace q169 := eq_true q169
            go_wp2
            go_roundg k1
            case measure => have := HK1.out; omega
            case rel => exact ⟨(wrap64 (x5_1 + 1)), (by first | rfl | (simp; done) | (simp [*]; done)), H', ⟨by have := HK1.out; omega⟩, by repeat (first | exact Drawn0.refl _ | apply Drawn0.step)⟩
        · rw [if_neg c4] at H
          exact absurd H (by simp)
      · rw [if_neg c3] at H
        have c3b0 : decide (x5_1 < (l0.length : Int)) = false := decide_eq_false c3
        clear c3
        obtain rfl := Option.some.inj H
        go_wp2
        go_ret
        exact ⟨by first | rfl | (simp; done) | (simp [*]; done), by repeat (first | exact Drawn0.refl _ | apply Drawn0.step)⟩
mutual
def antiquaryref27_Valid.j0 : Nat → Int → Bool → List (S61) → Option (Bool)
  | 0, _, _, _ => none
  | k + 1, x0, x20, x171000 => if x20 = true then (some false) else (antiquaryref27_Valid.l0 k x0 0 x171000)
def antiquaryref27_Valid.l0 : Nat → Int → Int → List (S61) → Option (Bool)
  | 0, _, _, _ => none
  | k + 1, x0, x5, x171000 => if x5 < x0 then (if 0 ≤ x5 then (if x5 < (x171000.length : Int) then (if ((rd_T61 x171000 x5).f0) < 0 then (antiquaryref27_Valid.j2 k x0 x5 true x171000 ((rd_T61 x171000 x5).f0) ((rd_T61 x171000 x5).f1)) else (if ((rd_T61 x171000 x5).f0) > 134217728 then (antiquaryref27_Valid.j2 k x0 x5 true x171000 ((rd_T61 x171000 x5).f0) ((rd_T61 x171000 x5).f1)) else ((antiquaryref27_has.f k ((rd_T61 x171000 x5).f1) x5).bind fun t173 => (antiquaryref27_Valid.j2 k x0 x5 (!t173) x171000 ((rd_T61 x171000 x5).f0) ((rd_T61 x171000 x5).f1))))) else (none)) else (none)) else (some true)
def antiquaryref27_Valid.j2 : Nat → Int → Int → Bool → List (S61) → Int → List Int → Option (Bool)
  | 0, _, _, _, _, _, _ => none
  | k + 1, x0, x5, x45, x171000, x173000, x173001 => if x45 = true then (some false) else (antiquaryref27_Valid.l1 k x0 x5 0 x171000 x173000 x173001)
def antiquaryref27_Valid.l1 : Nat → Int → Int → Int → List (S61) → Int → List Int → Option (Bool)
  | 0, _, _, _, _, _, _ => none
  | k + 1, x0, x5, x7, x171000, x173000, x173001 => if x7 < (x173001.length : Int) then (if 0 ≤ x7 then (if (rd x173001 x7) < 0 then (some false) else (if (rd x173001 x7) ≥ x0 then (some false) else (if x7 > 0 then (if 0 ≤ (wrap64 (x7 - 1)) then (if (wrap64 (x7 - 1)) < (x173001.length : Int) then (if (rd x173001 x7) ≤ (rd x173001 (wrap64 (x7 - 1))) then (some false) else (antiquaryref27_Valid.l1 k x0 x5 (wrap64 (x7 + 1)) x171000 x173000 x173001)) else (none)) else (none)) else (antiquaryref27_Valid.l1 k x0 x5 (wrap64 (x7 + 1)) x171000 x173000 x173001)))) else (none)) else (antiquaryref27_Valid.l0 k x0 (wrap64 (x5 + 1)) x171000)
end
def antiquaryref27_Valid.f (k : Nat) (a0 : Int) (l1_0 : List (S61)) : Option (Bool) := if a0 < 1 then (antiquaryref27_Valid.j0 k a0 true l1_0) else (if a0 > 4096 then (antiquaryref27_Valid.j0 k a0 true l1_0) else (antiquaryref27_Valid.j0 k a0 ((l1_0.length : Int) != a0) l1_0))
theorem antiquaryref27_Valid.mono_l : ∀ k, (∀ y0 y1 y2, LeO (antiquaryref27_Valid.j0 k y0 y1 y2) (antiquaryref27_Valid.j0 (k + 1) y0 y1 y2)) ∧ (∀ y0 y1 y2, LeO (antiquaryref27_Valid.l0 k y0 y1 y2) (antiquaryref27_Valid.l0 (k + 1) y0 y1 y2)) ∧ (∀ y0 y1 y2 y3 y4 y5, LeO (antiquaryref27_Valid.j2 k y0 y1 y2 y3 y4 y5) (antiquaryref27_Valid.j2 (k + 1) y0 y1 y2 y3 y4 y5)) ∧ (∀ y0 y1 y2 y3 y4 y5, LeO (antiquaryref27_Valid.l1 k y0 y1 y2 y3 y4 y5) (antiquaryref27_Valid.l1 (k + 1) y0 y1 y2 y3 y4 y5))
  | 0 => ⟨fun _ _ _ r h => by simp [antiquaryref27_Valid.j0] at h, fun _ _ _ r h => by simp [antiquaryref27_Valid.l0] at h, fun _ _ _ _ _ _ r h => by simp [antiquaryref27_Valid.j2] at h, fun _ _ _ _ _ _ r h => by simp [antiquaryref27_Valid.l1] at h⟩
  | k + 1 => by
    obtain ⟨ih0, ih1, ih2, ih3⟩ := antiquaryref27_Valid.mono_l k
    refine ⟨?_, ?_, ?_, ?_⟩
    · intro y0 y1 y2
      unfold antiquaryref27_Valid.j0
      repeat' first
      | (with_reducible exact ih0 _ _ _)
      | (with_reducible exact ih1 _ _ _)
      | (with_reducible exact ih2 _ _ _ _ _ _)
      | (with_reducible exact ih3 _ _ _ _ _ _)
      | (with_reducible exact antiquaryref27_has.mono _ _ _)
      | (with_reducible exact LeO.refl _)
      | (with_reducible exact LeO.none _)
      | (with_reducible refine LeO.ite ?_ ?_)
      | (with_reducible refine LeO.bind ?_ (fun _ => ?_))
      | exact ih0 _ _ _
      | exact ih1 _ _ _
      | exact ih2 _ _ _ _ _ _
      | exact ih3 _ _ _ _ _ _
      | exact antiquaryref27_has.mono _ _ _
      | exact LeO.none _
      | refine LeO.ite ?_ ?_
      | refine LeO.bind ?_ (fun _ => ?_)
    · intro y0 y1 y2
      unfold antiquaryref27_Valid.l0
      repeat' first
      | (with_reducible exact ih0 _ _ _)
      | (with_reducible exact ih1 _ _ _)
      | (with_reducible exact ih2 _ _ _ _ _ _)
      | (with_reducible exact ih3 _ _ _ _ _ _)
      | (with_reducible exact antiquaryref27_has.mono _ _ _)
      | (with_reducible exact LeO.refl _)
      | (with_reducible exact LeO.none _)
      | (with_reducible refine LeO.ite ?_ ?_)
      | (with_reducible refine LeO.bind ?_ (fun _ => ?_))
      | exact ih0 _ _ _
      | exact ih1 _ _ _
      | exact ih2 _ _ _ _ _ _
      | exact ih3 _ _ _ _ _ _
      | exact antiquaryref27_has.mono _ _ _
      | exact LeO.none _
      | refine LeO.ite ?_ ?_
      | refine LeO.bind ?_ (fun _ => ?_)
    · intro y0 y1 y2 y3 y4 y5
      unfold antiquaryref27_Valid.j2
      repeat' first
      | (with_reducible exact ih0 _ _ _)
      | (with_reducible exact ih1 _ _ _)
      | (with_reducible exact ih2 _ _ _ _ _ _)
      | (with_reducible exact ih3 _ _ _ _ _ _)
      | (with_reducible exact antiquaryref27_has.mono _ _ _)
      | (with_reducible exact LeO.refl _)
      | (with_reducible exact LeO.none _)
      | (with_reducible refine LeO.ite ?_ ?_)
      | (with_reducible refine LeO.bind ?_ (fun _ => ?_))
      | exact ih0 _ _ _
      | exact ih1 _ _ _
      | exact ih2 _ _ _ _ _ _
      | exact ih3 _ _ _ _ _ _
      | exact antiquaryref27_has.mono _ _ _
      | exact LeO.none _
      | refine LeO.ite ?_ ?_
      | refine LeO.bind ?_ (fun _ => ?_)
    · intro y0 y1 y2 y3 y4 y5
      unfold antiquaryref27_Valid.l1
      repeat' first
      | (with_reducible exact ih0 _ _ _)
      | (with_reducible exact ih1 _ _ _)
      | (with_reducible exact ih2 _ _ _ _ _ _)
      | (with_reducible exact ih3 _ _ _ _ _ _)
      | (with_reducible exact antiquaryref27_has.mono _ _ _)
      | (with_reducible exact LeO.refl _)
      | (with_reducible exact LeO.none _)
      | (with_reducible refine LeO.ite ?_ ?_)
      | (with_reducible refine LeO.bind ?_ (fun _ => ?_))
      | exact ih0 _ _ _
      | exact ih1 _ _ _
      | exact ih2 _ _ _ _ _ _
      | exact ih3 _ _ _ _ _ _
      | exact antiquaryref27_has.mono _ _ _
      | exact LeO.none _
      | refine LeO.ite ?_ ?_
      | refine LeO.bind ?_ (fun _ => ?_)
theorem antiquaryref27_Valid.mono : ∀ a0 a1 k, LeO (antiquaryref27_Valid.f k a0 a1) (antiquaryref27_Valid.f (k + 1) a0 a1) := by
  intro a0 a1 k
  obtain ⟨ih0, ih1, ih2, ih3⟩ := antiquaryref27_Valid.mono_l k
  unfold antiquaryref27_Valid.f
  repeat' first
      | (with_reducible exact ih0 _ _ _)
      | (with_reducible exact ih1 _ _ _)
      | (with_reducible exact ih2 _ _ _ _ _ _)
      | (with_reducible exact ih3 _ _ _ _ _ _)
      | (with_reducible exact antiquaryref27_has.mono _ _ _)
      | (with_reducible exact LeO.refl _)
      | (with_reducible exact LeO.none _)
      | (with_reducible refine LeO.ite ?_ ?_)
      | (with_reducible refine LeO.bind ?_ (fun _ => ?_))
      | exact ih0 _ _ _
      | exact ih1 _ _ _
      | exact ih2 _ _ _ _ _ _
      | exact ih3 _ _ _ _ _ _
      | exact antiquaryref27_has.mono _ _ _
      | exact LeO.none _
      | refine LeO.ite ?_ ?_
      | refine LeO.bind ?_ (fun _ => ?_)
set_option maxHeartbeats 8000000 in
set_option maxRecDepth 100000 in
theorem antiquaryref27_Valid.calls (k : Nat) (a0 : Int) (A1_0 : Option Addr) (c1_0 : Nat) (l1_0 : List (S61)) (r : Bool) (w : World) (hr1_0 : Kd.C k61 w A1_0 l1_0.length l1_0) (hc1_0 : l1_0.length ≤ c1_0) (h : antiquaryref27_Valid.f k a0 l1_0 = some r) :
    Calls Tryz.prog 25 #[.int .i64 a0, .agg #[.slice A1_0 l1_0.length c1_0]] w fun e w' => e = .returned (.bool r) ∧ Below w.heap.size w w' := by
  have hu25 := Tryz.underlying25
  have hu61 := Tryz.underlying61
  have HR1_0 := Aside0.mk hr1_0
  have HC1_0 := Aside0.mk hc1_0
  clear hr1_0 hc1_0
  have HB := Aside0.mk (Below.refl w.heap.size w)
  have H : (if a0 < 1 then (antiquaryref27_Valid.j0 k a0 true l1_0) else (if a0 > 4096 then (antiquaryref27_Valid.j0 k a0 true l1_0) else (antiquaryref27_Valid.j0 k a0 ((l1_0.length : Int) != a0) l1_0))) = some r := h
  clear h
  have HC3 := Aside0.mk H
  clear H
  go_enter Tryz.func25, Tryz.ntmps25
  go_upto_region 1 with (first | ((with_reducible refine gate_dst (N := 3) rfl ?_); (try (refine gate_guard (by rfl) ?_; dsimp only)); refine box_event ?hg (N := 3) ?hd (cs := #[.slice A1_0 l1_0.length c1_0]) (t := 25) ?hr ?_; (case hd => rfl); (case hg => rfl); (case hr => first | (go_simp; done) | (go_simp; rfl)); intro gb170 hg w4 hbox hb; have n0_ := Aside0.mk (below_step (by repeat (first | (with_reducible first | exact HB.out | apply below_alloc | apply pw_below_drewN | apply below_drew1) | exact HB.out)) hb); have n1_ := Aside0.mk (hbox); have n2_ := Aside0.mk ((by rw [hg]; exact (below_size (by repeat (first | (with_reducible first | exact HB.out | apply below_alloc | apply pw_below_drewN | apply below_drew1) | exact HB.out))) : w.heap.size ≤ gb170)); have n3_ := Aside0.mk ((by rw [hg]; exact (below_size (by repeat (first | (with_reducible first | exact HB.out | apply below_alloc | apply pw_below_drewN | apply below_drew1) | exact HB.out))) : w.heap.size ≤ gb170)); clear HB; have HB := n0_; have BK170 := n1_; have GW170 := n2_; have GE170 := n3_; clear n0_ n1_ n2_ n3_; clear hb hbox hg))
  repeat (go_quiet (first | ((with_reducible refine gate_dst (N := 3) rfl ?_); (try (refine gate_guard (by rfl) ?_; dsimp only)); refine box_event ?hg (N := 3) ?hd (cs := #[.slice A1_0 l1_0.length c1_0]) (t := 25) ?hr ?_; (case hd => rfl); (case hg => rfl); (case hr => first | (go_simp; done) | (go_simp; rfl)); intro gb170 hg w4 hbox hb; have n0_ := Aside0.mk (below_step (by repeat (first | (with_reducible first | exact HB.out | apply below_alloc | apply pw_below_drewN | apply below_drew1) | exact HB.out)) hb); have n1_ := Aside0.mk (hbox); have n2_ := Aside0.mk ((by rw [hg]; exact (below_size (by repeat (first | (with_reducible first | exact HB.out | apply below_alloc | apply pw_below_drewN | apply below_drew1) | exact HB.out))) : w.heap.size ≤ gb170)); have n3_ := Aside0.mk ((by rw [hg]; exact (below_size (by repeat (first | (with_reducible first | exact HB.out | apply below_alloc | apply pw_below_drewN | apply below_drew1) | exact HB.out))) : w.heap.size ≤ gb170)); clear HB; have HB := n0_; have BK170 := n1_; have GW170 := n2_; have GE170 := n3_; clear n0_ n1_ n2_ n3_; clear hb hbox hg)); go_upto_region 1 with (first | ((with_reducible refine gate_dst (N := 3) rfl ?_); (try (refine gate_guard (by rfl) ?_; dsimp only)); refine box_event ?hg (N := 3) ?hd (cs := #[.slice A1_0 l1_0.length c1_0]) (t := 25) ?hr ?_; (case hd => rfl); (case hg => rfl); (case hr => first | (go_simp; done) | (go_simp; rfl)); intro gb170 hg w4 hbox hb; have n0_ := Aside0.mk (below_step (by repeat (first | (with_reducible first | exact HB.out | apply below_alloc | apply pw_below_drewN | apply below_drew1) | exact HB.out)) hb); have n1_ := Aside0.mk (hbox); have n2_ := Aside0.mk ((by rw [hg]; exact (below_size (by repeat (first | (with_reducible first | exact HB.out | apply below_alloc | apply pw_below_drewN | apply below_drew1) | exact HB.out))) : w.heap.size ≤ gb170)); have n3_ := Aside0.mk ((by rw [hg]; exact (below_size (by repeat (first | (with_reducible first | exact HB.out | apply below_alloc | apply pw_below_drewN | apply below_drew1) | exact HB.out))) : w.heap.size ≤ gb170)); clear HB; have HB := n0_; have BK170 := n1_; have GW170 := n2_; have GE170 := n3_; clear n0_ n1_ n2_ n3_; clear hb hbox hg)))
  (try simp only [Act.put, List.setIfInBounds_toArray, List.set_cons_zero, List.set_cons_succ])
  go_cut [20] (fun v20 wc => ∃ (kq : Nat) (x20_2 : Bool), v20 = .bool x20_2 ∧ Aside0 (antiquaryref27_Valid.j0 kq a0 x20_2 l1_0 = some r) ∧ Aside0 (kq ≤ k) ∧ Aside0 (wc.heap[gb170]? = some (.cells #[(.slice A1_0 l1_0.length c1_0)] 25 (0, 0))) ∧ Aside0 (Below w.heap.size w wc))
  case first =>
    have H := HC3.out
    clear HC3
    by_cases c5 : a0 < 1
    · rw [if_pos c5] at H
      have c5b0 : decide (a0 < 1) = true := decide_eq_true c5
      clear c5
      (first | rw [c5b0] | (simp only [i64_w, i32_w]; rw [c5b0]) | skip)
      have H' := Aside0.mk H
      clear H
      go_wp2
      repeat (go_quiet (fail); try go_wp2)
      go_meet
      case rel => exact ⟨_, (true), (by first | rfl | (simp; done) | (simp [*]; done)), H', ⟨by first | omega | exact Nat.le_refl _⟩, ⟨by (with_reducible repeat (first | refine blk_drewN ?_ _ | refine blk_drew ?_ | refine blk_alloc ?_ _)); exact BK170.out⟩, ⟨by repeat (first | (with_reducible first | exact HB.out | apply below_alloc | apply pw_below_drewN | apply below_drew1 | refine below_set ?_ GE170.out) | exact HB.out)⟩⟩
    · rw [if_neg c5] at H
      have c5b0 : decide (a0 < 1) = false := decide_eq_false c5
      clear c5
      (first | rw [c5b0] | (simp only [i64_w, i32_w]; rw [c5b0]) | skip)
      by_cases c6 : a0 > 4096
      · rw [if_pos c6] at H
        have c6b0 : decide (4096 < a0) = true := decide_eq_true c6
        clear c6
        have H' := Aside0.mk H
        clear H
        go_wp2
        repeat (go_quiet (fail); try go_wp2)
        go_meet
        case rel => exact ⟨_, (true), (by first | rfl | (simp; done) | (simp [*]; done)), H', ⟨by first | omega | exact Nat.le_refl _⟩, ⟨by (with_reducible repeat (first | refine blk_drewN ?_ _ | refine blk_drew ?_ | refine blk_alloc ?_ _)); exact BK170.out⟩, ⟨by repeat (first | (with_reducible first | exact HB.out | apply below_alloc | apply pw_below_drewN | apply below_drew1 | refine below_set ?_ GE170.out) | exact HB.out)⟩⟩
      · rw [if_neg c6] at H
        have c6b0 : decide (4096 < a0) = false := decide_eq_false c6
        clear c6
        have H' := Aside0.mk H
        clear H
        have hcz7_0 : w4.cell? ⟨gb170, 0, none⟩ = some (.slice A1_0 l1_0.length c1_0) := (blk_cell BK170.out 0).trans rfl
        have hfz7_0 := blk_frozen BK170.out 0
        go_wp2
        repeat (go_quiet (fail); try go_wp2)
        go_meet
        case rel => exact ⟨_, (((l1_0.length : Int) != a0)), (by first | rfl | (simp; done) | (simp [*]; done)), H', ⟨by first | omega | exact Nat.le_refl _⟩, ⟨by (with_reducible repeat (first | refine blk_drewN ?_ _ | refine blk_drew ?_ | refine blk_alloc ?_ _)); exact BK170.out⟩, ⟨by repeat (first | (with_reducible first | exact HB.out | apply below_alloc | apply pw_below_drewN | apply below_drew1 | refine below_set ?_ GE170.out) | exact HB.out)⟩⟩
  case rest =>
    clear HC3
    try clear c1
    try clear c2
    try clear p2
    try clear c5
    try clear c5b0
    try clear c6
    try clear c6b0
    try clear hcz7_0
    try clear hfz7_0
    obtain ⟨kq, x20_2, rfl, HA, HJ2, BK170, HB⟩ := hcut
    cases kq with
    | zero => exact absurd HA.out (by simp [antiquaryref27_Valid.j0])
    | succ kj2 =>
      have H := HA.out
      clear HA
      simp only [antiquaryref27_Valid.j0] at H
      by_cases c8 : x20_2 = true
      · subst c8
        have H1 : (some false) = some r := by rw [if_pos rfl] at H; exact H
        clear H
        have H := H1
        clear H1
        obtain rfl := Option.some.inj H
        go_wp2
        repeat (go_quiet (fail); try go_wp2)
        go_ret
        exact ⟨by first | rfl | (simp [errW_none, errW_some] <;> rfl) | (simp [*, errW_none, errW_some] <;> rfl), by repeat (first | (with_reducible first | exact HB.out | apply below_alloc | apply pw_below_drewN | apply below_drew1 | refine below_set ?_ GE170.out) | exact HB.out)⟩
      · replace c8 := Bool.eq_false_iff.mpr c8
        subst c8
        have H1 : (antiquaryref27_Valid.l0 kj2 a0 0 l1_0) = some r := by rw [if_neg (show ¬ (false = true) by decide)] at H; exact H
        clear H
        have H := H1
        clear H1
        have H' := Aside0.mk H
        clear H
        go_wp2
        repeat (go_quiet (fail); try go_wp2)
        go_loopg [5] kj2 (fun kq v5 w' => ∃ (x5_2 : Int), v5 = .int .i64 x5_2 ∧ Aside0 (antiquaryref27_Valid.l0 kq a0 x5_2 l1_0 = some r) ∧ Aside0 (kq ≤ kj2) ∧ Aside0 (w'.heap[gb170]? = some (.cells #[(.slice A1_0 l1_0.length c1_0)] 25 (0, 0))) ∧ Aside0 (Below w.heap.size w w'))
        case atStart => exact ⟨(0), (by first | rfl | (simp; done) | (simp [*]; done)), H', ⟨Nat.le_refl _⟩, ⟨by (with_reducible repeat (first | refine blk_drewN ?_ _ | refine blk_drew ?_ | refine blk_alloc ?_ _)); exact BK170.out⟩, ⟨by repeat (first | (with_reducible first | exact HB.out | apply below_alloc | apply pw_below_drewN | apply below_drew1 | refine below_set ?_ GE170.out) | exact HB.out)⟩⟩
        case round =>
          clear H'
          try clear c1
          try clear c2
          try clear p2
          try clear c5
          try clear c5b0
          try clear c6
          try clear c6b0
          try clear c8
          try clear hcz7_0
          try clear hfz7_0
          try clear p2
          obtain ⟨x5_2, rfl, HA, HK2, BK170, HB⟩ := hrel
          cases gk with
          | zero => exact absurd HA.out (by simp [antiquaryref27_Valid.l0])
          | succ k2 =>
            have H := HA.out
            clear HA
            simp only [antiquaryref27_Valid.l0] at H
            by_cases c9 : x5_2 < a0
            · rw [if_pos c9] at H
              have c9b0 : decide (x5_2 < a0) = true := decide_eq_true c9
              clear c9
              by_cases c10 : 0 ≤ x5_2
              · rw [if_pos c10] at H
                have c10b0 : decide (0 ≤ x5_2) = true := decide_eq_true c10
                clear c10
                by_cases c11 : x5_2 < (l1_0.length : Int)
                · rw [if_pos c11] at H
                  have c11b0 : decide (x5_2 < (l1_0.length : Int)) = true := decide_eq_true c11
                  clear c11
                  have HC12 := Aside0.mk H
                  clear H
                  have hcz13_0 : wr.cell? ⟨gb170, 0, none⟩ = some (.slice A1_0 l1_0.length c1_0) := (blk_cell BK170.out 0).trans rfl
                  have hfz13_0 := blk_frozen BK170.out 0
                  have p171 : 0 ≤ (x5_2 : Int) := of_decide_eq_true (by first | (with_reducible assumption) | assumption)
                  have q171 : x5_2 < (l1_0.length : Int) := of_decide_eq_true (by first | (with_reducible assumption) | assumption)
                  obtain ⟨ad171, A171_1, c171_1, e171, hx171_0, hx171_1, hl171_1, hi171_1⟩ := at_T61 HR1_0.out x5_2 p171 q171
                  cases e171
                  replace hx171_0 := (HB.out.cell (World.block_lt_of_cell? w _ hx171_0)).trans hx171_0
                  replace hx171_1 := (HB.out.cell (World.block_lt_of_cell? w _ hx171_1)).trans hx171_1
                  have HR171_1 := Aside0.mk hi171_1
                  have HC171_1 := Aside0.mk hl171_1
                  clear hi171_1 hl171_1
                  replace p171 := eq_true p171
                  replace q171 := eq_true q171
                  go_upto_region 7 with (first | ((with_reducible refine gate_dst (N := 6) rfl ?_); (try (refine gate_guard (by rfl) ?_; dsimp only)); refine box_event ?hg (N := 6) ?hd (cs := #[.int .i64 0, .slice none 0 0]) (t := 61) ?hr ?_; (case hd => rfl); (case hg => rfl); (case hr => first | (go_simp; done) | (go_simp; rfl)); intro gb172 hg w14 hbox hb; have n0_ := Aside0.mk (blk_below (g := gb170) (o := .cells #[.slice (some ad171) l1_0.length c1_0] 25 (0, 0)) (by (with_reducible repeat (first | refine blk_drewN ?_ _ | refine blk_drew ?_ | refine blk_alloc ?_ _)); exact BK170.out) hb); have n1_ := Aside0.mk (below_step (by repeat (first | (with_reducible first | exact HB.out | apply below_alloc | apply pw_below_drewN | apply below_drew1 | refine below_set ?_ GE170.out) | exact HB.out)) hb); have n2_ := Aside0.mk (hbox); have n3_ := Aside0.mk ((by rw [hg]; exact (below_size (by repeat (first | (with_reducible first | exact HB.out | apply below_alloc | apply pw_below_drewN | apply below_drew1 | refine below_set ?_ GE170.out) | exact HB.out))) : w.heap.size ≤ gb172)); have n4_ := Aside0.mk ((by rw [hg]; exact (below_size (by repeat (first | (with_reducible first | exact HB.out | apply below_alloc | apply pw_below_drewN | apply below_drew1 | refine below_set ?_ GE170.out) | exact HB.out))) : w.heap.size ≤ gb172)); have n5_ := Aside0.mk ((by rw [hg]; exact Nat.ne_of_lt (blk_lt (g := gb170) (o := .cells #[.slice (some ad171) l1_0.length c1_0] 25 (0, 0)) (by (with_reducible repeat (first | refine blk_drewN ?_ _ | refine blk_drew ?_ | refine blk_alloc ?_ _)); exact BK170.out)) : gb170 ≠ gb172)); have n6_ := Aside0.mk ((by rw [hg]; exact Nat.ne_of_gt (blk_lt (g := gb170) (o := .cells #[.slice (some ad171) l1_0.length c1_0] 25 (0, 0)) (by (with_reducible repeat (first | refine blk_drewN ?_ _ | refine blk_drew ?_ | refine blk_alloc ?_ _)); exact BK170.out)) : gb172 ≠ gb170)); clear BK170; clear HB; have BK170 := n0_; have HB := n1_; have BK172 := n2_; have GW172 := n3_; have GE172 := n4_; have NB170_172 := n5_; have NB172_170 := n6_; clear n0_ n1_ n2_ n3_ n4_ n5_ n6_; clear hb hbox hg; have hnb15 := NB172_170.out; have hnc15 := NB170_172.out; have hcz16_0 : w14.cell? ⟨gb172, 0, none⟩ = some (.int .i64 0) := (blk_cell BK172.out 0).trans rfl; have hcz16_1 : w14.cell? ⟨gb172, 1, none⟩ = some (.slice none 0 0) := (blk_cell BK172.out 1).trans rfl; have hfz16_0 := blk_frozen BK172.out 0; have hfz16_1 := blk_frozen BK172.out 1))
                  repeat (go_quiet (first | ((with_reducible refine gate_dst (N := 6) rfl ?_); (try (refine gate_guard (by rfl) ?_; dsimp only)); refine box_event ?hg (N := 6) ?hd (cs := #[.int .i64 0, .slice none 0 0]) (t := 61) ?hr ?_; (case hd => rfl); (case hg => rfl); (case hr => first | (go_simp; done) | (go_simp; rfl)); intro gb172 hg w14 hbox hb; have n0_ := Aside0.mk (blk_below (g := gb170) (o := .cells #[.slice (some ad171) l1_0.length c1_0] 25 (0, 0)) (by (with_reducible repeat (first | refine blk_drewN ?_ _ | refine blk_drew ?_ | refine blk_alloc ?_ _)); exact BK170.out) hb); have n1_ := Aside0.mk (below_step (by repeat (first | (with_reducible first | exact HB.out | apply below_alloc | apply pw_below_drewN | apply below_drew1 | refine below_set ?_ GE170.out) | exact HB.out)) hb); have n2_ := Aside0.mk (hbox); have n3_ := Aside0.mk ((by rw [hg]; exact (below_size (by repeat (first | (with_reducible first | exact HB.out | apply below_alloc | apply pw_below_drewN | apply below_drew1 | refine below_set ?_ GE170.out) | exact HB.out))) : w.heap.size ≤ gb172)); have n4_ := Aside0.mk ((by rw [hg]; exact (below_size (by repeat (first | (with_reducible first | exact HB.out | apply below_alloc | apply pw_below_drewN | apply below_drew1 | refine below_set ?_ GE170.out) | exact HB.out))) : w.heap.size ≤ gb172)); have n5_ := Aside0.mk ((by rw [hg]; exact Nat.ne_of_lt (blk_lt (g := gb170) (o := .cells #[.slice (some ad171) l1_0.length c1_0] 25 (0, 0)) (by (with_reducible repeat (first | refine blk_drewN ?_ _ | refine blk_drew ?_ | refine blk_alloc ?_ _)); exact BK170.out)) : gb170 ≠ gb172)); have n6_ := Aside0.mk ((by rw [hg]; exact Nat.ne_of_gt (blk_lt (g := gb170) (o := .cells #[.slice (some ad171) l1_0.length c1_0] 25 (0, 0)) (by (with_reducible repeat (first | refine blk_drewN ?_ _ | refine blk_drew ?_ | refine blk_alloc ?_ _)); exact BK170.out)) : gb172 ≠ gb170)); clear BK170; clear HB; have BK170 := n0_; have HB := n1_; have BK172 := n2_; have GW172 := n3_; have GE172 := n4_; have NB170_172 := n5_; have NB172_170 := n6_; clear n0_ n1_ n2_ n3_ n4_ n5_ n6_; clear hb hbox hg; have hnb15 := NB172_170.out; have hnc15 := NB170_172.out; have hcz16_0 : w14.cell? ⟨gb172, 0, none⟩ = some (.int .i64 0) := (blk_cell BK172.out 0).trans rfl; have hcz16_1 : w14.cell? ⟨gb172, 1, none⟩ = some (.slice none 0 0) := (blk_cell BK172.out 1).trans rfl; have hfz16_0 := blk_frozen BK172.out 0; have hfz16_1 := blk_frozen BK172.out 1)); go_upto_region 7 with (first | ((with_reducible refine gate_dst (N := 6) rfl ?_); (try (refine gate_guard (by rfl) ?_; dsimp only)); refine box_event ?hg (N := 6) ?hd (cs := #[.int .i64 0, .slice none 0 0]) (t := 61) ?hr ?_; (case hd => rfl); (case hg => rfl); (case hr => first | (go_simp; done) | (go_simp; rfl)); intro gb172 hg w14 hbox hb; have n0_ := Aside0.mk (blk_below (g := gb170) (o := .cells #[.slice (some ad171) l1_0.length c1_0] 25 (0, 0)) (by (with_reducible repeat (first | refine blk_drewN ?_ _ | refine blk_drew ?_ | refine blk_alloc ?_ _)); exact BK170.out) hb); have n1_ := Aside0.mk (below_step (by repeat (first | (with_reducible first | exact HB.out | apply below_alloc | apply pw_below_drewN | apply below_drew1 | refine below_set ?_ GE170.out) | exact HB.out)) hb); have n2_ := Aside0.mk (hbox); have n3_ := Aside0.mk ((by rw [hg]; exact (below_size (by repeat (first | (with_reducible first | exact HB.out | apply below_alloc | apply pw_below_drewN | apply below_drew1 | refine below_set ?_ GE170.out) | exact HB.out))) : w.heap.size ≤ gb172)); have n4_ := Aside0.mk ((by rw [hg]; exact (below_size (by repeat (first | (with_reducible first | exact HB.out | apply below_alloc | apply pw_below_drewN | apply below_drew1 | refine below_set ?_ GE170.out) | exact HB.out))) : w.heap.size ≤ gb172)); have n5_ := Aside0.mk ((by rw [hg]; exact Nat.ne_of_lt (blk_lt (g := gb170) (o := .cells #[.slice (some ad171) l1_0.length c1_0] 25 (0, 0)) (by (with_reducible repeat (first | refine blk_drewN ?_ _ | refine blk_drew ?_ | refine blk_alloc ?_ _)); exact BK170.out)) : gb170 ≠ gb172)); have n6_ := Aside0.mk ((by rw [hg]; exact Nat.ne_of_gt (blk_lt (g := gb170) (o := .cells #[.slice (some ad171) l1_0.length c1_0] 25 (0, 0)) (by (with_reducible repeat (first | refine blk_drewN ?_ _ | refine blk_drew ?_ | refine blk_alloc ?_ _)); exact BK170.out)) : gb172 ≠ gb170)); clear BK170; clear HB; have BK170 := n0_; have HB := n1_; have BK172 := n2_; have GW172 := n3_; have GE172 := n4_; have NB170_172 := n5_; have NB172_170 := n6_; clear n0_ n1_ n2_ n3_ n4_ n5_ n6_; clear hb hbox hg; have hnb15 := NB172_170.out; have hnc15 := NB170_172.out; have hcz16_0 : w14.cell? ⟨gb172, 0, none⟩ = some (.int .i64 0) := (blk_cell BK172.out 0).trans rfl; have hcz16_1 : w14.cell? ⟨gb172, 1, none⟩ = some (.slice none 0 0) := (blk_cell BK172.out 1).trans rfl; have hfz16_0 := blk_frozen BK172.out 0; have hfz16_1 := blk_frozen BK172.out 1)))
                  (try simp only [Act.put, List.setIfInBounds_toArray, List.set_cons_zero, List.set_cons_succ])
                  go_cut [45] (fun v45 wc => ∃ (kq : Nat) (x45_11 : Bool), v45 = .bool x45_11 ∧ Aside0 (antiquaryref27_Valid.j2 kq a0 x5_2 x45_11 l1_0 ((rd_T61 l1_0 x5_2).f0) ((rd_T61 l1_0 x5_2).f1) = some r) ∧ Aside0 (kq ≤ k2) ∧ Aside0 (wc.heap[gb170]? = some (.cells #[(.slice (some ad171) l1_0.length c1_0)] 25 (0, 0))) ∧ Aside0 (wc.heap[gb172]? = some (.cells #[.int .i64 ((rd_T61 l1_0 x5_2).f0), (.slice A171_1 ((rd_T61 l1_0 x5_2).f1).length c171_1)] 61 (0, 0))) ∧ Aside0 (Below w.heap.size w wc))
                  case first =>
                    have H := HC12.out
                    clear HC12
                    by_cases c17 : ((rd_T61 l1_0 x5_2).f0) < 0
                    · rw [if_pos c17] at H
                      have c17b0 : decide (((rd_T61 l1_0 x5_2).f0) < 0) = true := decide_eq_true c17
                      clear c17
                      (first | rw [c17b0] | (simp only [i64_w, i32_w]; rw [c17b0]) | skip)
                      have H' := Aside0.mk H
                      clear H
                      have hnb18 := NB172_170.out
                      have hnc18 := NB170_172.out
                      have hcz19_0 : w14.cell? ⟨gb172, 0, none⟩ = some (.int .i64 0) := (blk_cell BK172.out 0).trans rfl
                      have hcz19_1 : w14.cell? ⟨gb172, 1, none⟩ = some (.slice none 0 0) := (blk_cell BK172.out 1).trans rfl
                      have hfz19_0 := blk_frozen BK172.out 0
                      have hfz19_1 := blk_frozen BK172.out 1
                      go_wp2
                      repeat (go_quiet (fail); try go_wp2)
                      go_meet
                      case rel => exact ⟨_, (true), (by first | rfl | (simp; done) | (simp [*]; done)), H', ⟨by have := HJ2.out; have := HK2.out; first | omega | exact Nat.le_refl _⟩, ⟨by (with_reducible repeat (first | refine blk_drewN ?_ _ | refine blk_drew ?_ | refine blk_alloc ?_ _)); refine blk_far ?_ NB170_172.out _; (with_reducible repeat (first | refine blk_drewN ?_ _ | refine blk_drew ?_ | refine blk_alloc ?_ _)); refine blk_far ?_ NB170_172.out _; (with_reducible repeat (first | refine blk_drewN ?_ _ | refine blk_drew ?_ | refine blk_alloc ?_ _)); exact BK170.out⟩, ⟨by (with_reducible repeat (first | refine blk_drewN ?_ _ | refine blk_drew ?_ | refine blk_alloc ?_ _)); refine blk_put (cs := #[.int .i64 ((rd_T61 l1_0 x5_2).f0), .slice none 0 0]) ?_ 1 _ rfl; (with_reducible repeat (first | refine blk_drewN ?_ _ | refine blk_drew ?_ | refine blk_alloc ?_ _)); refine blk_put (cs := #[.int .i64 0, .slice none 0 0]) ?_ 0 _ rfl; (with_reducible repeat (first | refine blk_drewN ?_ _ | refine blk_drew ?_ | refine blk_alloc ?_ _)); exact BK172.out⟩, ⟨by repeat (first | (with_reducible first | exact HB.out | apply below_alloc | apply pw_below_drewN | apply below_drew1 | refine below_set ?_ GE170.out | refine below_set ?_ GE172.out) | exact HB.out)⟩⟩
                    · rw [if_neg c17] at H
                      have c17b0 : decide (((rd_T61 l1_0 x5_2).f0) < 0) = false := decide_eq_false c17
                      clear c17
                      (first | rw [c17b0] | (simp only [i64_w, i32_w]; rw [c17b0]) | skip)
                      by_cases c20 : ((rd_T61 l1_0 x5_2).f0) > 134217728
                      · rw [if_pos c20] at H
                        have c20b0 : decide (134217728 < ((rd_T61 l1_0 x5_2).f0)) = true := decide_eq_true c20
                        clear c20
                        have H' := Aside0.mk H
                        clear H
                        have hnb21 := NB172_170.out
                        have hnc21 := NB170_172.out
                        have hcz22_0 : w14.cell? ⟨gb172, 0, none⟩ = some (.int .i64 0) := (blk_cell BK172.out 0).trans rfl
                        have hcz22_1 : w14.cell? ⟨gb172, 1, none⟩ = some (.slice none 0 0) := (blk_cell BK172.out 1).trans rfl
                        have hfz22_0 := blk_frozen BK172.out 0
                        have hfz22_1 := blk_frozen BK172.out 1
                        go_wp2
                        repeat (go_quiet (fail); try go_wp2)
                        go_meet
                        case rel => exact ⟨_, (true), (by first | rfl | (simp; done) | (simp [*]; done)), H', ⟨by have := HJ2.out; have := HK2.out; first | omega | exact Nat.le_refl _⟩, ⟨by (with_reducible repeat (first | refine blk_drewN ?_ _ | refine blk_drew ?_ | refine blk_alloc ?_ _)); refine blk_far ?_ NB170_172.out _; (with_reducible repeat (first | refine blk_drewN ?_ _ | refine blk_drew ?_ | refine blk_alloc ?_ _)); refine blk_far ?_ NB170_172.out _; (with_reducible repeat (first | refine blk_drewN ?_ _ | refine blk_drew ?_ | refine blk_alloc ?_ _)); exact BK170.out⟩, ⟨by (with_reducible repeat (first | refine blk_drewN ?_ _ | refine blk_drew ?_ | refine blk_alloc ?_ _)); refine blk_put (cs := #[.int .i64 ((rd_T61 l1_0 x5_2).f0), .slice none 0 0]) ?_ 1 _ rfl; (with_reducible repeat (first | refine blk_drewN ?_ _ | refine blk_drew ?_ | refine blk_alloc ?_ _)); refine blk_put (cs := #[.int .i64 0, .slice none 0 0]) ?_ 0 _ rfl; (with_reducible repeat (first | refine blk_drewN ?_ _ | refine blk_drew ?_ | refine blk_alloc ?_ _)); exact BK172.out⟩, ⟨by repeat (first | (with_reducible first | exact HB.out | apply below_alloc | apply pw_below_drewN | apply below_drew1 | refine below_set ?_ GE170.out | refine below_set ?_ GE172.out) | exact HB.out)⟩⟩
                      · rw [if_neg c20] at H
                        have c20b0 : decide (134217728 < ((rd_T61 l1_0 x5_2).f0)) = false := decide_eq_false c20
                        clear c20
                        replace H := Option.bind_eq_some_iff.mp H
                        obtain ⟨t173, A230, H⟩ := H
                        replace H : (antiquaryref27_Valid.j2 k2 a0 x5_2 (!t173) l1_0 ((rd_T61 l1_0 x5_2).f0) ((rd_T61 l1_0 x5_2).f1)) = some r := H
                        have A23 := Aside0.mk A230
                        clear A230
                        have H' := Aside0.mk H
                        clear H
                        have hnb24 := NB172_170.out
                        have hnc24 := NB170_172.out
                        have hcz25_0 : w14.cell? ⟨gb172, 0, none⟩ = some (.int .i64 0) := (blk_cell BK172.out 0).trans rfl
                        have hcz25_1 : w14.cell? ⟨gb172, 1, none⟩ = some (.slice none 0 0) := (blk_cell BK172.out 1).trans rfl
                        have hfz25_0 := blk_frozen BK172.out 0
                        have hfz25_1 := blk_frozen BK172.out 1
                        go_wp2_with (first | (go_at_call 51; (with_reducible refine (antiquaryref27_has.calls k2 _ _ ((rd_T61 l1_0 x5_2).f1) x5_2 t173 _ ?side1 ?side2 A23.out).mono ?_); (case side1 => exact Kd.C_below HR171_1.out (by repeat (first | (with_reducible first | exact HB.out | apply below_alloc | apply pw_below_drewN | apply below_drew1 | refine below_set ?_ GE170.out | refine below_set ?_ GE172.out) | exact HB.out))); (case side2 => exact HC171_1.out); rintro e w' ⟨rfl, ⟨nd, rfl⟩⟩; (try first | exact ⟨rfl, _, World.drewN_drewN _ _ _⟩ | exact ⟨rfl, _, Eq.trans (World.drewN_drewN _ _ _) (congrArg (World.drewN _) (Nat.add_assoc _ _ _))⟩)))
                        repeat (go_quiet (first | (go_at_call 51; (with_reducible refine (antiquaryref27_has.calls k2 _ _ ((rd_T61 l1_0 x5_2).f1) x5_2 t173 _ ?side1 ?side2 A23.out).mono ?_); (case side1 => exact Kd.C_below HR171_1.out (by repeat (first | (with_reducible first | exact HB.out | apply below_alloc | apply pw_below_drewN | apply below_drew1 | refine below_set ?_ GE170.out | refine below_set ?_ GE172.out) | exact HB.out))); (case side2 => exact HC171_1.out); rintro e w' ⟨rfl, ⟨nd, rfl⟩⟩; (try first | exact ⟨rfl, _, World.drewN_drewN _ _ _⟩ | exact ⟨rfl, _, Eq.trans (World.drewN_drewN _ _ _) (congrArg (World.drewN _) (Nat.add_assoc _ _ _))⟩))); try go_wp2_with (first | (go_at_call 51; (with_reducible refine (antiquaryref27_has.calls k2 _ _ ((rd_T61 l1_0 x5_2).f1) x5_2 t173 _ ?side1 ?side2 A23.out).mono ?_); (case side1 => exact Kd.C_below HR171_1.out (by repeat (first | (with_reducible first | exact HB.out | apply below_alloc | apply pw_below_drewN | apply below_drew1 | refine below_set ?_ GE170.out | refine below_set ?_ GE172.out) | exact HB.out))); (case side2 => exact HC171_1.out); rintro e w' ⟨rfl, ⟨nd, rfl⟩⟩; (try first | exact ⟨rfl, _, World.drewN_drewN _ _ _⟩ | exact ⟨rfl, _, Eq.trans (World.drewN_drewN _ _ _) (congrArg (World.drewN _) (Nat.add_assoc _ _ _))⟩))))
                        go_meet
                        case rel => exact ⟨_, (!t173), (by first | rfl | (simp; done) | (simp [*]; done)), H', ⟨by have := HJ2.out; have := HK2.out; first | omega | exact Nat.le_refl _⟩, ⟨by (with_reducible repeat (first | refine blk_drewN ?_ _ | refine blk_drew ?_ | refine blk_alloc ?_ _)); refine blk_far ?_ NB170_172.out _; (with_reducible repeat (first | refine blk_drewN ?_ _ | refine blk_drew ?_ | refine blk_alloc ?_ _)); refine blk_far ?_ NB170_172.out _; (with_reducible repeat (first | refine blk_drewN ?_ _ | refine blk_drew ?_ | refine blk_alloc ?_ _)); exact BK170.out⟩, ⟨by (with_reducible repeat (first | refine blk_drewN ?_ _ | refine blk_drew ?_ | refine blk_alloc ?_ _)); refine blk_put (cs := #[.int .i64 ((rd_T61 l1_0 x5_2).f0), .slice none 0 0]) ?_ 1 _ rfl; (with_reducible repeat (first | refine blk_drewN ?_ _ | refine blk_drew ?_ | refine blk_alloc ?_ _)); refine blk_put (cs := #[.int .i64 0, .slice none 0 0]) ?_ 0 _ rfl; (with_reducible repeat (first | refine blk_drewN ?_ _ | refine blk_drew ?_ | refine blk_alloc ?_ _)); exact BK172.out⟩, ⟨by repeat (first | (with_reducible first | exact HB.out | apply below_alloc | apply pw_below_drewN | apply below_drew1 | refine below_set ?_ GE170.out | refine below_set ?_ GE172.out) | exact HB.out)⟩⟩
                  case rest =>
                    clear HC12
                    try clear c1
                    try clear p1
                    try clear q1
                    try clear hx1
                    try clear c2
                    try clear p2
                    try clear c5
                    try clear c5b0
                    try clear c6
                    try clear c6b0
                    try clear c8
                    try clear c9
                    try clear c9b0
                    try clear c10
                    try clear c10b0
                    try clear c11
                    try clear c11b0
                    try clear c15
                    try clear c17
                    try clear c17b0
                    try clear p17
                    try clear q17
                    try clear hx17
                    try clear c18
                    try clear c20
                    try clear c20b0
                    try clear c21
                    try clear c24
                    try clear c25
                    try clear hcz13_0
                    try clear hcz16_0
                    try clear hcz16_1
                    try clear hcz19_0
                    try clear hcz19_1
                    try clear hcz22_0
                    try clear hcz22_1
                    try clear hcz25_0
                    try clear hcz25_1
                    try clear hcz7_0
                    try clear hfz13_0
                    try clear hfz16_0
                    try clear hfz16_1
                    try clear hfz19_0
                    try clear hfz19_1
                    try clear hfz22_0
                    try clear hfz22_1
                    try clear hfz25_0
                    try clear hfz25_1
                    try clear hfz7_0
                    try clear hx171_0
                    try clear hx171_1
                    try clear p171
                    try clear p2
                    try clear q171
                    obtain ⟨kq, x45_11, rfl, HA, HJ11, BK170, BK172, HB⟩ := hcut
                    cases kq with
                    | zero => exact absurd HA.out (by simp [antiquaryref27_Valid.j2])
                    | succ kj11 =>
                      have H := HA.out
                      clear HA
                      simp only [antiquaryref27_Valid.j2] at H
                      by_cases c26 : x45_11 = true
                      · subst c26
                        have H1 : (some false) = some r := by rw [if_pos rfl] at H; exact H
                        clear H
                        have H := H1
                        clear H1
                        obtain rfl := Option.some.inj H
                        go_wp2
                        repeat (go_quiet (fail); try go_wp2)
                        go_ret
                        exact ⟨by first | rfl | (simp [errW_none, errW_some] <;> rfl) | (simp [*, errW_none, errW_some] <;> rfl), by repeat (first | (with_reducible first | exact HB.out | apply below_alloc | apply pw_below_drewN | apply below_drew1 | refine below_set ?_ GE170.out | refine below_set ?_ GE172.out) | exact HB.out)⟩
                      · replace c26 := Bool.eq_false_iff.mpr c26
                        subst c26
                        have H1 : (antiquaryref27_Valid.l1 kj11 a0 x5_2 0 l1_0 ((rd_T61 l1_0 x5_2).f0) ((rd_T61 l1_0 x5_2).f1)) = some r := by rw [if_neg (show ¬ (false = true) by decide)] at H; exact H
                        clear H
                        have H := H1
                        clear H1
                        have H' := Aside0.mk H
                        clear H
                        go_wp2
                        repeat (go_quiet (fail); try go_wp2)
                        go_loopg [7] kj11 (fun kq v7 w' => ∃ (x7_4 : Int), v7 = .int .i64 x7_4 ∧ Aside0 (antiquaryref27_Valid.l1 kq a0 x5_2 x7_4 l1_0 ((rd_T61 l1_0 x5_2).f0) ((rd_T61 l1_0 x5_2).f1) = some r) ∧ Aside0 (kq ≤ kj11) ∧ Aside0 (w'.heap[gb170]? = some (.cells #[(.slice (some ad171) l1_0.length c1_0)] 25 (0, 0))) ∧ Aside0 (w'.heap[gb172]? = some (.cells #[.int .i64 ((rd_T61 l1_0 x5_2).f0), (.slice A171_1 ((rd_T61 l1_0 x5_2).f1).length c171_1)] 61 (0, 0))) ∧ Aside0 (Below w.heap.size w w'))
                        case atStart => exact ⟨(0), (by first | rfl | (simp; done) | (simp [*]; done)), H', ⟨Nat.le_refl _⟩, ⟨by (with_reducible repeat (first | refine blk_drewN ?_ _ | refine blk_drew ?_ | refine blk_alloc ?_ _)); exact BK170.out⟩, ⟨by (with_reducible repeat (first | refine blk_drewN ?_ _ | refine blk_drew ?_ | refine blk_alloc ?_ _)); exact BK172.out⟩, ⟨by repeat (first | (with_reducible first | exact HB.out | apply below_alloc | apply pw_below_drewN | apply below_drew1 | refine below_set ?_ GE170.out | refine below_set ?_ GE172.out) | exact HB.out)⟩⟩
                        case round =>
                          clear H'
                          try clear c1
                          try clear p1
                          try clear q1
                          try clear hx1
                          try clear c2
                          try clear p2
                          try clear c5
                          try clear c5b0
                          try clear c6
                          try clear c6b0
                          try clear c8
                          try clear c9
                          try clear c9b0
                          try clear c10
                          try clear c10b0
                          try clear c11
                          try clear c11b0
                          try clear c15
                          try clear c17
                          try clear c17b0
                          try clear p17
                          try clear q17
                          try clear hx17
                          try clear c18
                          try clear c20
                          try clear c20b0
                          try clear c21
                          try clear c24
                          try clear c25
                          try clear c26
                          try clear hcz13_0
                          try clear hcz16_0
                          try clear hcz16_1
                          try clear hcz19_0
                          try clear hcz19_1
                          try clear hcz22_0
                          try clear hcz22_1
                          try clear hcz25_0
                          try clear hcz25_1
                          try clear hcz7_0
                          try clear hfz13_0
                          try clear hfz16_0
                          try clear hfz16_1
                          try clear hfz19_0
                          try clear hfz19_1
                          try clear hfz22_0
                          try clear hfz22_1
                          try clear hfz25_0
                          try clear hfz25_1
                          try clear hfz7_0
                          try clear hx171_0
                          try clear hx171_1
                          try clear p1
                          try clear p17
                          try clear p171
                          try clear p2
                          try clear q1
                          try clear q17
                          try clear q171
                          obtain ⟨x7_4, rfl, HA, HK4, BK170, BK172, HB⟩ := hrel
                          cases gk with
                          | zero => exact absurd HA.out (by simp [antiquaryref27_Valid.l1])
                          | succ k4 =>
                            have H := HA.out
                            clear HA
                            simp only [antiquaryref27_Valid.l1] at H
                            by_cases c27 : x7_4 < (((rd_T61 l1_0 x5_2).f1).length : Int)
                            · rw [if_pos c27] at H
                              have c27b0 : decide (x7_4 < (((rd_T61 l1_0 x5_2).f1).length : Int)) = true := decide_eq_true c27
                              clear c27
                              by_cases c28 : 0 ≤ x7_4
                              · rw [if_pos c28] at H
                                have c28b0 : decide (0 ≤ x7_4) = true := decide_eq_true c28
                                clear c28
                                by_cases c29 : (rd ((rd_T61 l1_0 x5_2).f1) x7_4) < 0
                                · rw [if_pos c29] at H
                                  have c29b0 : decide ((rd ((rd_T61 l1_0 x5_2).f1) x7_4) < 0) = true := decide_eq_true c29
                                  clear c29
                                  obtain rfl := Option.some.inj H
                                  have hnb30 := NB172_170.out
                                  have hnc30 := NB170_172.out
                                  have hcz31_0 : wr.cell? ⟨gb172, 0, none⟩ = some (.int .i64 ((rd_T61 l1_0 x5_2).f0)) := (blk_cell BK172.out 0).trans rfl
                                  have hcz31_1 : wr.cell? ⟨gb172, 1, none⟩ = some (.slice A171_1 ((rd_T61 l1_0 x5_2).f1).length c171_1) := (blk_cell BK172.out 1).trans rfl
                                  have hfz31_0 := blk_frozen BK172.out 0
                                  have hfz31_1 := blk_frozen BK172.out 1
                                  have p174 : 0 ≤ (x7_4 : Int) := of_decide_eq_true (by first | (with_reducible assumption) | assumption)
                                  have q174 : x7_4 < (((rd_T61 l1_0 x5_2).f1).length : Int) := of_decide_eq_true (by first | (with_reducible assumption) | assumption)
                                  obtain ⟨ad174, e174, hx174_0⟩ := Kd.at_int HR171_1.out x7_4 p174 q174
                                  cases e174
                                  replace hx174_0 := (HB.out.cell (World.block_lt_of_cell? w _ hx174_0)).trans hx174_0
                                  replace p174 := eq_true p174
                                  replace q174 := eq_true q174
                                  go_wp2
                                  repeat (go_quiet (fail); try go_wp2)
                                  go_ret
                                  exact ⟨by first | rfl | (simp [errW_none, errW_some] <;> rfl) | (simp [*, errW_none, errW_some] <;> rfl), by repeat (first | (with_reducible first | exact HB.out | apply below_alloc | apply pw_below_drewN | apply below_drew1 | refine below_set ?_ GE170.out | refine below_set ?_ GE172.out) | exact HB.out)⟩
                                · rw [if_neg c29] at H
                                  have c29b0 : decide ((rd ((rd_T61 l1_0 x5_2).f1) x7_4) < 0) = false := decide_eq_false c29
                                  clear c29
                                  by_cases c32 : (rd ((rd_T61 l1_0 x5_2).f1) x7_4) ≥ a0
                                  · rw [if_pos c32] at H
                                    have c32b0 : decide (a0 ≤ (rd ((rd_T61 l1_0 x5_2).f1) x7_4)) = true := decide_eq_true c32
                                    clear c32
                                    obtain rfl := Option.some.inj H
                                    have hnb33 := NB172_170.out
                                    have hnc33 := NB170_172.out
                                    have hcz34_0 : wr.cell? ⟨gb172, 0, none⟩ = some (.int .i64 ((rd_T61 l1_0 x5_2).f0)) := (blk_cell BK172.out 0).trans rfl
                                    have hcz34_1 : wr.cell? ⟨gb172, 1, none⟩ = some (.slice A171_1 ((rd_T61 l1_0 x5_2).f1).length c171_1) := (blk_cell BK172.out 1).trans rfl
                                    have hfz34_0 := blk_frozen BK172.out 0
                                    have hfz34_1 := blk_frozen BK172.out 1
                                    have p174 : 0 ≤ (x7_4 : Int) := of_decide_eq_true (by first | (with_reducible assumption) | assumption)
                                    have q174 : x7_4 < (((rd_T61 l1_0 x5_2).f1).length : Int) := of_decide_eq_true (by first | (with_reducible assumption) | assumption)
                                    obtain ⟨ad174, e174, hx174_0⟩ := Kd.at_int HR171_1.out x7_4 p174 q174
                                    cases e174
                                    replace hx174_0 := (HB.out.cell (World.block_lt_of_cell? w _ hx174_0)).trans hx174_0
                                    replace p174 := eq_true p174
                                    replace q174 := eq_true q174
                                    have p175 : 0 ≤ (x7_4 : Int) := of_decide_eq_true (by first | (with_reducible assumption) | assumption)
                                    have q175 : x7_4 < (((rd_T61 l1_0 x5_2).f1).length : Int) := of_decide_eq_true (by first | (with_reducible assumption) | assumption)
                                    obtain ⟨ad175, e175, hx175_0⟩ := Kd.at_int HR171_1.out x7_4 p175 q175
                                    obtain rfl : ad174 = ad175 := (by injection e175)
                                    replace hx175_0 := (HB.out.cell (World.block_lt_of_cell? w _ hx175_0)).trans hx175_0
                                    replace p175 := eq_true p175
                                    replace q175 := eq_true q175
                                    go_wp2
                                    repeat (go_quiet (fail); try go_wp2)
                                    go_ret
                                    exact ⟨by first | rfl | (simp [errW_none, errW_some] <;> rfl) | (simp [*, errW_none, errW_some] <;> rfl), by repeat (first | (with_reducible first | exact HB.out | apply below_alloc | apply pw_below_drewN | apply below_drew1 | refine below_set ?_ GE170.out | refine below_set ?_ GE172.out) | exact HB.out)⟩
                                  · rw [if_neg c32] at H
                                    have c32b0 : decide (a0 ≤ (rd ((rd_T61 l1_0 x5_2).f1) x7_4)) = false := decide_eq_false c32
                                    clear c32
                                    by_cases c35 : x7_4 > 0
                                    · rw [if_pos c35] at H
                                      have c35b0 : decide (0 < x7_4) = true := decide_eq_true c35
                                      clear c35
                                      obtain ⟨ji36, hji36⟩ : ∃ j_ : Int, (wrap64 (x7_4 - 1)) = j_ := ⟨_, rfl⟩
                                      replace H : (if 0 ≤ (ji36) then (if (ji36) < (((rd_T61 l1_0 x5_2).f1).length : Int) then (if (rd ((rd_T61 l1_0 x5_2).f1) x7_4) ≤ (rd ((rd_T61 l1_0 x5_2).f1) (ji36)) then (some false) else (antiquaryref27_Valid.l1 k4 a0 x5_2 (wrap64 (x7_4 + 1)) l1_0 ((rd_T61 l1_0 x5_2).f0) ((rd_T61 l1_0 x5_2).f1))) else (none)) else (none)) = some r := by first | (rw [hji36] at H; exact H) | (simp only [hji36] at H ⊢; exact H)
                                      have hji36w : (IntKind.i64.wrap (x7_4 - 1)) = ji36 := (i64_w _).trans hji36
                                      by_cases c37 : 0 ≤ (ji36)
                                      · rw [if_pos c37] at H
                                        have c37b0 : decide (0 ≤ (ji36)) = true := decide_eq_true c37
                                        clear c37
                                        by_cases c38 : (ji36) < (((rd_T61 l1_0 x5_2).f1).length : Int)
                                        · rw [if_pos c38] at H
                                          have c38b0 : decide ((ji36) < (((rd_T61 l1_0 x5_2).f1).length : Int)) = true := decide_eq_true c38
                                          clear c38
                                          by_cases c39 : (rd ((rd_T61 l1_0 x5_2).f1) x7_4) ≤ (rd ((rd_T61 l1_0 x5_2).f1) (ji36))
                                          · rw [if_pos c39] at H
                                            have c39b0 : decide ((rd ((rd_T61 l1_0 x5_2).f1) x7_4) ≤ (rd ((rd_T61 l1_0 x5_2).f1) (ji36))) = true := decide_eq_true c39
                                            clear c39
                                            obtain rfl := Option.some.inj H
                                            have hnb40 := NB172_170.out
                                            have hnc40 := NB170_172.out
                                            have hcz41_0 : wr.cell? ⟨gb172, 0, none⟩ = some (.int .i64 ((rd_T61 l1_0 x5_2).f0)) := (blk_cell BK172.out 0).trans rfl
                                            have hcz41_1 : wr.cell? ⟨gb172, 1, none⟩ = some (.slice A171_1 ((rd_T61 l1_0 x5_2).f1).length c171_1) := (blk_cell BK172.out 1).trans rfl
                                            have hfz41_0 := blk_frozen BK172.out 0
                                            have hfz41_1 := blk_frozen BK172.out 1
                                            have p174 : 0 ≤ (x7_4 : Int) := of_decide_eq_true (by first | (with_reducible assumption) | assumption)
                                            have q174 : x7_4 < (((rd_T61 l1_0 x5_2).f1).length : Int) := of_decide_eq_true (by first | (with_reducible assumption) | assumption)
                                            obtain ⟨ad174, e174, hx174_0⟩ := Kd.at_int HR171_1.out x7_4 p174 q174
                                            cases e174
                                            replace hx174_0 := (HB.out.cell (World.block_lt_of_cell? w _ hx174_0)).trans hx174_0
                                            replace p174 := eq_true p174
                                            replace q174 := eq_true q174
                                            have p175 : 0 ≤ (x7_4 : Int) := of_decide_eq_true (by first | (with_reducible assumption) | assumption)
                                            have q175 : x7_4 < (((rd_T61 l1_0 x5_2).f1).length : Int) := of_decide_eq_true (by first | (with_reducible assumption) | assumption)
                                            obtain ⟨ad175, e175, hx175_0⟩ := Kd.at_int HR171_1.out x7_4 p175 q175
                                            obtain rfl : ad174 = ad175 := (by injection e175)
                                            replace hx175_0 := (HB.out.cell (World.block_lt_of_cell? w _ hx175_0)).trans hx175_0
                                            replace p175 := eq_true p175
                                            replace q175 := eq_true q175
                                            have p176 : 0 ≤ (x7_4 : Int) := of_decide_eq_true (by first | (with_reducible assumption) | assumption)
                                            have q176 : x7_4 < (((rd_T61 l1_0 x5_2).f1).length : Int) := of_decide_eq_true (by first | (with_reducible assumption) | assumption)
                                            obtain ⟨ad176, e176, hx176_0⟩ := Kd.at_int HR171_1.out x7_4 p176 q176
                                            obtain rfl : ad174 = ad176 := (by injection e176)
                                            replace hx176_0 := (HB.out.cell (World.block_lt_of_cell? w _ hx176_0)).trans hx176_0
                                            replace p176 := eq_true p176
                                            replace q176 := eq_true q176
                                            have p177 : 0 ≤ ((ji36) : Int) := of_decide_eq_true (by first | (with_reducible assumption) | assumption)
                                            have q177 : (ji36) < (((rd_T61 l1_0 x5_2).f1).length : Int) := of_decide_eq_true (by first | (with_reducible assumption) | assumption)
                                            obtain ⟨ad177, e177, hx177_0⟩ := Kd.at_int HR171_1.out (ji36) p177 q177
                                            obtain rfl : ad174 = ad177 := (by injection e177)
                                            replace hx177_0 := (HB.out.cell (World.block_lt_of_cell? w _ hx177_0)).trans hx177_0
                                            replace p177 := eq_true p177
                                            replace q177 := eq_true q177
                                            go_wp2
                                            repeat (go_quiet (fail); try go_wp2)
                                            go_ret
                                            exact ⟨by first | rfl | (simp [errW_none, errW_some] <;> rfl) | (simp only [← hji36]; first | rfl | (simp [errW_none, errW_some] <;> rfl)) | (simp [*, errW_none, errW_some] <;> rfl), by repeat (first | (with_reducible first | exact HB.out | apply below_alloc | apply pw_below_drewN | apply below_drew1 | refine below_set ?_ GE170.out | refine below_set ?_ GE172.out) | exact HB.out)⟩
                                          · rw [if_neg c39] at H
                                            have c39b0 : decide ((rd ((rd_T61 l1_0 x5_2).f1) x7_4) ≤ (rd ((rd_T61 l1_0 x5_2).f1) (ji36))) = false := decide_eq_false c39
                                            clear c39
                                            have H' := Aside0.mk H
                                            clear H
                                            have hnb42 := NB172_170.out
                                            have hnc42 := NB170_172.out
                                            have hcz43_0 : wr.cell? ⟨gb172, 0, none⟩ = some (.int .i64 ((rd_T61 l1_0 x5_2).f0)) := (blk_cell BK172.out 0).trans rfl
                                            have hcz43_1 : wr.cell? ⟨gb172, 1, none⟩ = some (.slice A171_1 ((rd_T61 l1_0 x5_2).f1).length c171_1) := (blk_cell BK172.out 1).trans rfl
                                            have hfz43_0 := blk_frozen BK172.out 0
                                            have hfz43_1 := blk_frozen BK172.out 1
                                            have p174 : 0 ≤ (x7_4 : Int) := of_decide_eq_true (by first | (with_reducible assumption) | assumption)
                                            have q174 : x7_4 < (((rd_T61 l1_0 x5_2).f1).length : Int) := of_decide_eq_true (by first | (with_reducible assumption) | assumption)
                                            obtain ⟨ad174, e174, hx174_0⟩ := Kd.at_int HR171_1.out x7_4 p174 q174
                                            cases e174
                                            replace hx174_0 := (HB.out.cell (World.block_lt_of_cell? w _ hx174_0)).trans hx174_0
                                            replace p174 := eq_true p174
                                            replace q174 := eq_true q174
                                            have p175 : 0 ≤ (x7_4 : Int) := of_decide_eq_true (by first | (with_reducible assumption) | assumption)
                                            have q175 : x7_4 < (((rd_T61 l1_0 x5_2).f1).length : Int) := of_decide_eq_true (by first | (with_reducible assumption) | assumption)
                                            obtain ⟨ad175, e175, hx175_0⟩ := Kd.at_int HR171_1.out x7_4 p175 q175
                                            obtain rfl : ad174 = ad175 := (by injection e175)
                                            replace hx175_0 := (HB.out.cell (World.block_lt_of_cell? w _ hx175_0)).trans hx175_0
                                            replace p175 := eq_true p175
                                            replace q175 := eq_true q175
                                            have p176 : 0 ≤ (x7_4 : Int) := of_decide_eq_true (by first | (with_reducible assumption) | assumption)
                                            have q176 : x7_4 < (((rd_T61 l1_0 x5_2).f1).length : Int) := of_decide_eq_true (by first | (with_reducible assumption) | assumption)
                                            obtain ⟨ad176, e176, hx176_0⟩ := Kd.at_int HR171_1.out x7_4 p176 q176
                                            obtain rfl : ad174 = ad176 := (by injection e176)
                                            replace hx176_0 := (HB.out.cell (World.block_lt_of_cell? w _ hx176_0)).trans hx176_0
                                            replace p176 := eq_true p176
                                            replace q176 := eq_true q176
                                            have p177 : 0 ≤ ((ji36) : Int) := of_decide_eq_true (by first | (with_reducible assumption) | assumption)
                                            have q177 : (ji36) < (((rd_T61 l1_0 x5_2).f1).length : Int) := of_decide_eq_true (by first | (with_reducible assumption) | assumption)
                                            obtain ⟨ad177, e177, hx177_0⟩ := Kd.at_int HR171_1.out (ji36) p177 q177
                                            obtain rfl : ad174 = ad177 := (by injection e177)
                                            replace hx177_0 := (HB.out.cell (World.block_lt_of_cell? w _ hx177_0)).trans hx177_0
                                            replace p177 := eq_true p177
                                            replace q177 := eq_true q177
                                            go_wp2
                                            repeat (go_quiet (fail); try go_wp2)
                                            go_roundg k4
                                            case measure => have := HJ2.out; have := HK2.out; have := HJ11.out; have := HK4.out; omega
                                            case rel => exact ⟨(wrap64 (x7_4 + 1)), (by first | rfl | (simp; done) | (simp [*]; done)), H', ⟨by have := HJ2.out; have := HK2.out; have := HJ11.out; have := HK4.out; omega⟩, ⟨by (with_reducible repeat (first | refine blk_drewN ?_ _ | refine blk_drew ?_ | refine blk_alloc ?_ _)); exact BK170.out⟩, ⟨by (with_reducible repeat (first | refine blk_drewN ?_ _ | refine blk_drew ?_ | refine blk_alloc ?_ _)); exact BK172.out⟩, ⟨by repeat (first | (with_reducible first | exact HB.out | apply below_alloc | apply pw_below_drewN | apply below_drew1 | refine below_set ?_ GE170.out | refine below_set ?_ GE172.out) | exact HB.out)⟩⟩
                                        · rw [if_neg c38] at H
                                          exact absurd H (by simp)
                                      · rw [if_neg c37] at H
                                        exact absurd H (by simp)
                                    · rw [if_neg c35] at H
                                      have c35b0 : decide (0 < x7_4) = false := decide_eq_false c35
                                      clear c35
                                      have H' := Aside0.mk H
                                      clear H
                                      have hnb44 := NB172_170.out
                                      have hnc44 := NB170_172.out
                                      have hcz45_0 : wr.cell? ⟨gb172, 0, none⟩ = some (.int .i64 ((rd_T61 l1_0 x5_2).f0)) := (blk_cell BK172.out 0).trans rfl
                                      have hcz45_1 : wr.cell? ⟨gb172, 1, none⟩ = some (.slice A171_1 ((rd_T61 l1_0 x5_2).f1).length c171_1) := (blk_cell BK172.out 1).trans rfl
                                      have hfz45_0 := blk_frozen BK172.out 0
                                      have hfz45_1 := blk_frozen BK172.out 1
                                      have p174 : 0 ≤ (x7_4 : Int) := of_decide_eq_true (by first | (with_reducible assumption) | assumption)
                                      have q174 : x7_4 < (((rd_T61 l1_0 x5_2).f1).length : Int) := of_decide_eq_true (by first | (with_reducible assumption) | assumption)
                                      obtain ⟨ad174, e174, hx174_0⟩ := Kd.at_int HR171_1.out x7_4 p174 q174
                                      cases e174
                                      replace hx174_0 := (HB.out.cell (World.block_lt_of_cell? w _ hx174_0)).trans hx174_0
                                      replace p174 := eq_true p174
                                      replace q174 := eq_true q174
                                      have p175 : 0 ≤ (x7_4 : Int) := of_decide_eq_true (by first | (with_reducible assumption) | assumption)
                                      have q175 : x7_4 < (((rd_T61 l1_0 x5_2).f1).length : Int) := of_decide_eq_true (by first | (with_reducible assumption) | assumption)
                                      obtain ⟨ad175, e175, hx175_0⟩ := Kd.at_int HR171_1.out x7_4 p175 q175
                                      obtain rfl : ad174 = ad175 := (by injection e175)
                                      replace hx175_0 := (HB.out.cell (World.block_lt_of_cell? w _ hx175_0)).trans hx175_0
                                      replace p175 := eq_true p175
                                      replace q175 := eq_true q175
                                      go_wp2
                                      repeat (go_quiet (fail); try go_wp2)
                                      go_roundg k4
                                      case measure => have := HJ2.out; have := HK2.out; have := HJ11.out; have := HK4.out; omega
                                      case rel => exact ⟨(wrap64 (x7_4 + 1)), (by first | rfl | (simp; done) | (simp [*]; done)), H', ⟨by have := HJ2.out; have := HK2.out; have := HJ11.out; have := HK4.out; omega⟩, ⟨by (with_reducible repeat (first | refine blk_drewN ?_ _ | refine blk_drew ?_ | refine blk_alloc ?_ _)); exact BK170.out⟩, ⟨by (with_reducible repeat (first | refine blk_drewN ?_ _ | refine blk_drew ?_ | refine blk_alloc ?_ _)); exact BK172.out⟩, ⟨by repeat (first | (with_reducible first | exact HB.out | apply below_alloc | apply pw_below_drewN | apply below_drew1 | refine below_set ?_ GE170.out | refine below_set ?_ GE172.out) | exact HB.out)⟩⟩
                              · rw [if_neg c28] at H
                                exact absurd H (by simp)
                            · rw [if_neg c27] at H
                              have c27b0 : decide (x7_4 < (((rd_T61 l1_0 x5_2).f1).length : Int)) = false := decide_eq_false c27
                              clear c27
                              have H' := Aside0.mk H
                              clear H
                              have hnb46 := NB172_170.out
                              have hnc46 := NB170_172.out
                              have hcz47_0 : wr.cell? ⟨gb172, 0, none⟩ = some (.int .i64 ((rd_T61 l1_0 x5_2).f0)) := (blk_cell BK172.out 0).trans rfl
                              have hcz47_1 : wr.cell? ⟨gb172, 1, none⟩ = some (.slice A171_1 ((rd_T61 l1_0 x5_2).f1).length c171_1) := (blk_cell BK172.out 1).trans rfl
                              have hfz47_0 := blk_frozen BK172.out 0
                              have hfz47_1 := blk_frozen BK172.out 1
                              go_wp2
                              repeat (go_quiet (fail); try go_wp2)
                              go_roundg k4
                              case measure => have := HJ2.out; have := HK2.out; have := HJ11.out; have := HK4.out; omega
                              case rel => exact ⟨(wrap64 (x5_2 + 1)), (by first | rfl | (simp; done) | (simp [*]; done)), H', ⟨by have := HJ2.out; have := HK2.out; have := HJ11.out; have := HK4.out; omega⟩, ⟨by (with_reducible repeat (first | refine blk_drewN ?_ _ | refine blk_drew ?_ | refine blk_alloc ?_ _)); exact BK170.out⟩, ⟨by repeat (first | (with_reducible first | exact HB.out | apply below_alloc | apply pw_below_drewN | apply below_drew1 | refine below_set ?_ GE170.out | refine below_set ?_ GE172.out) | exact HB.out)⟩⟩
                · rw [if_neg c11] at H
                  exact absurd H (by simp)
              · rw [if_neg c10] at H
                exact absurd H (by simp)
            · rw [if_neg c9] at H
              have c9b0 : decide (x5_2 < a0) = false := decide_eq_false c9
              clear c9
              obtain rfl := Option.some.inj H
              go_wp2
              repeat (go_quiet (fail); try go_wp2)
              go_ret
              exact ⟨by first | rfl | (simp [errW_none, errW_some] <;> rfl) | (simp [*, errW_none, errW_some] <;> rfl), by repeat (first | (with_reducible first | exact HB.out | apply below_alloc | apply pw_below_drewN | apply below_drew1 | refine below_set ?_ GE170.out) | exact HB.out)⟩
def antiquaryref09_Fit.l0 : Nat → List (List Int) → Int → Option (Bool)
  | 0, _, _ => none
  | k + 1, x0, x3 => if x3 < (x0.length : Int) then (if 0 ≤ x3 then ((antiquaryref04_Valid.f k (rd_L1 x0 x3)).bind fun t179 => (if t179 = true then (if 0 < (x0.length : Int) then (if ((rd_L1 x0 x3).length : Int) = ((rd_L1 x0 0).length : Int) then (antiquaryref09_Fit.l0 k x0 (wrap64 (x3 + 1))) else (some false)) else (none)) else (some false))) else (none)) else (if (x0.length : Int) ≥ 1 then (some (decide ((x0.length : Int) ≤ 4096))) else (some false))
def antiquaryref09_Fit.f (k : Nat) (l0 : List (List Int)) : Option (Bool) := antiquaryref09_Fit.l0 k l0 0
theorem antiquaryref09_Fit.mono_l : ∀ k, (∀ y0 y1, LeO (antiquaryref09_Fit.l0 k y0 y1) (antiquaryref09_Fit.l0 (k + 1) y0 y1))
  | 0 => fun _ _ r h => by simp [antiquaryref09_Fit.l0] at h
  | k + 1 => by
    have ih0 := antiquaryref09_Fit.mono_l k
    · intro y0 y1
      unfold antiquaryref09_Fit.l0
      repeat' first
      | (with_reducible exact ih0 _ _)
      | (with_reducible exact antiquaryref04_Valid.mono _ _)
      | (with_reducible exact LeO.refl _)
      | (with_reducible exact LeO.none _)
      | (with_reducible refine LeO.ite ?_ ?_)
      | (with_reducible refine LeO.bind ?_ (fun _ => ?_))
      | exact ih0 _ _
      | exact antiquaryref04_Valid.mono _ _
      | exact LeO.none _
      | refine LeO.ite ?_ ?_
      | refine LeO.bind ?_ (fun _ => ?_)
theorem antiquaryref09_Fit.mono : ∀ a0 k, LeO (antiquaryref09_Fit.f k a0) (antiquaryref09_Fit.f (k + 1) a0) := by
  intro a0 k
  have ih0 := antiquaryref09_Fit.mono_l k
  unfold antiquaryref09_Fit.f
  repeat' first
      | (with_reducible exact ih0 _ _)
      | (with_reducible exact antiquaryref04_Valid.mono _ _)
      | (with_reducible exact LeO.refl _)
      | (with_reducible exact LeO.none _)
      | (with_reducible refine LeO.ite ?_ ?_)
      | (with_reducible refine LeO.bind ?_ (fun _ => ?_))
      | exact ih0 _ _
      | exact antiquaryref04_Valid.mono _ _
      | exact LeO.none _
      | refine LeO.ite ?_ ?_
      | refine LeO.bind ?_ (fun _ => ?_)
set_option maxHeartbeats 8000000 in
set_option maxRecDepth 100000 in
theorem antiquaryref09_Fit.calls (k : Nat) (A0 : Option Addr) (c0 : Nat) (l0 : List (List Int)) (r : Bool) (w : World) (hr0 : Kd.C (Kd.slice 3 (Kd.int .i64)) w A0 l0.length l0) (hc0 : l0.length ≤ c0) (h : antiquaryref09_Fit.f k l0 = some r) :
    Calls Tryz.prog 26 #[.slice A0 l0.length c0] w fun e w' => e = .returned (.bool r) ∧ Drawn0 w w' := by
  have HR0 := Aside0.mk hr0
  have HC0 := Aside0.mk hc0
  clear hr0 hc0
  have H : (antiquaryref09_Fit.l0 k l0 0) = some r := h
  clear h
  have H' := Aside0.mk H
  clear H
  go_enter Tryz.func26, Tryz.ntmps26
  go_wp2
  repeat (go_quiet (fail); try go_wp2)
  go_loopg [3] k (fun kq v3 w' => ∃ (x3_1 : Int), v3 = .int .i64 x3_1 ∧ Aside0 (antiquaryref09_Fit.l0 kq l0 x3_1 = some r) ∧ Aside0 (kq ≤ k) ∧ Drawn0 w w')
  case atStart => exact ⟨(0), (by first | rfl | (simp; done) | (simp [*]; done)), H', ⟨Nat.le_refl _⟩, by repeat (first | exact Drawn0.refl _ | apply Drawn0.step)⟩
  case round =>
    clear H'
    obtain ⟨x3_1, rfl, HA, HK1, ⟨m1, rfl⟩⟩ := hrel
    cases gk with
    | zero => exact absurd HA.out (by simp [antiquaryref09_Fit.l0])
    | succ k1 =>
      have H := HA.out
      clear HA
      simp only [antiquaryref09_Fit.l0] at H
      by_cases c2 : x3_1 < (l0.length : Int)
      · rw [if_pos c2] at H
        have c2b0 : decide (x3_1 < (l0.length : Int)) = true := decide_eq_true c2
        clear c2
        by_cases c3 : 0 ≤ x3_1
        · rw [if_pos c3] at H
          have c3b0 : decide (0 ≤ x3_1) = true := decide_eq_true c3
          clear c3
          replace H := Option.bind_eq_some_iff.mp H
          obtain ⟨t179, A40, H⟩ := H
          replace H : (if t179 = true then (if 0 < (l0.length : Int) then (if ((rd_L1 l0 x3_1).length : Int) = ((rd_L1 l0 0).length : Int) then (antiquaryref09_Fit.l0 k1 l0 (wrap64 (x3_1 + 1))) else (some false)) else (none)) else (some false)) = some r := H
          have A4 := Aside0.mk A40
          clear A40
          by_cases c5 : t179 = true
          · subst c5
            have H1 : (if 0 < (l0.length : Int) then (if ((rd_L1 l0 x3_1).length : Int) = ((rd_L1 l0 0).length : Int) then (antiquaryref09_Fit.l0 k1 l0 (wrap64 (x3_1 + 1))) else (some false)) else (none)) = some r := by rw [if_pos rfl] at H; exact H
            clear H
            have H := H1
            clear H1
            by_cases c6 : 0 < (l0.length : Int)
            · rw [if_pos c6] at H
              have c6b0 : decide (0 < (l0.length : Int)) = true := decide_eq_true c6
              have c6b1 : decide (0 < l0.length) = true := decide_eq_true (by omega)
              clear c6
              by_cases c7 : ((rd_L1 l0 x3_1).length : Int) = ((rd_L1 l0 0).length : Int)
              · rw [if_pos c7] at H
                have c7b0 : (((rd_L1 l0 x3_1).length : Int) == ((rd_L1 l0 0).length : Int)) = true := beq_iff_eq.mpr c7
                have c7b1 : (((rd_L1 l0 x3_1).length : Int) != ((rd_L1 l0 0).length : Int)) = false := bne_eq_false_iff_eq.mpr c7
                have c7b2 : ((rd_L1 l0 x3_1).length == (rd_L1 l0 0).length) = true := by first | simpa using c7 | (simp at c7 ⊢; omega)
                clear c7
                have H' := Aside0.mk H
                clear H
                have p178 : 0 ≤ (x3_1 : Int) := of_decide_eq_true (by first | (with_reducible assumption) | assumption)
                have q178 : x3_1 < (l0.length : Int) := of_decide_eq_true (by first | (with_reducible assumption) | assumption)
                obtain ⟨ad178, A178_0, c178_0, e178, hx178_0, hl178_0, hi178_0⟩ := at_L1 HR0.out x3_1 p178 q178
                cases e178
                have HR178_0 := Aside0.mk hi178_0
                have HC178_0 := Aside0.mk hl178_0
                clear hi178_0 hl178_0
                replace p178 := eq_true p178
                replace q178 := eq_true q178
                go_wp2_with (first | (go_at_call 52; (with_reducible refine (antiquaryref04_Valid.calls k1 _ _ (rd_L1 l0 x3_1) true _ ?side1 ?side2 A4.out).mono ?_); (case side1 => repeat (first | exact HR178_0.out | (with_reducible refine Kd.C_alloc ?_ _) | (with_reducible refine Kd.C_drewN ?_ _) | (with_reducible refine Kd.C_drew ?_))); (case side2 => exact HC178_0.out); rintro e w' ⟨rfl, ⟨nd, rfl⟩⟩; (try first | exact ⟨rfl, _, World.drewN_drewN _ _ _⟩ | exact ⟨rfl, _, Eq.trans (World.drewN_drewN _ _ _) (congrArg (World.drewN _) (Nat.add_assoc _ _ _))⟩); have p180 : 0 ≤ (x3_1 : Int) := of_decide_eq_true (by first | (with_reducible assumption) | assumption); have q180 : x3_1 < (l0.length : Int) := of_decide_eq_true (by first | (with_reducible assumption) | assumption); obtain ⟨ad180, A180_0, c180_0, e180, hx180_0, hl180_0, hi180_0⟩ := at_L1 HR0.out x3_1 p180 q180; obtain rfl : ad178 = ad180 := (by injection e180); have HR180_0 := Aside0.mk hi180_0; have HC180_0 := Aside0.mk hl180_0; clear hi180_0 hl180_0; replace p180 := eq_true p180; replace q180 := eq_true q180; have ea_ := Option.some.inj (hx178_0.symm.trans hx180_0); injection ea_ with ea_ en_ ec_; subst ea_; subst ec_; clear en_; have p181 : 0 ≤ (0 : Int) := (by omega); have q181 : 0 < (l0.length : Int) := of_decide_eq_true (by first | (with_reducible assumption) | assumption); obtain ⟨ad181, A181_0, c181_0, e181, hx181_0, hl181_0, hi181_0⟩ := at_L1 HR0.out 0 p181 q181; obtain rfl : ad178 = ad181 := (by injection e181); have qi181 : (0 < l0.length) = True := eq_true (by omega); (try rw [show ((0 : Int)).toNat = 0 from rfl] at hx181_0); (try rw [Addr.add_zero'] at hx181_0); have HR181_0 := Aside0.mk hi181_0; have HC181_0 := Aside0.mk hl181_0; clear hi181_0 hl181_0; replace p181 := eq_true p181; replace q181 := eq_true q181))
                repeat (go_quiet (first | (go_at_call 52; (with_reducible refine (antiquaryref04_Valid.calls k1 _ _ (rd_L1 l0 x3_1) true _ ?side1 ?side2 A4.out).mono ?_); (case side1 => repeat (first | exact HR178_0.out | (with_reducible refine Kd.C_alloc ?_ _) | (with_reducible refine Kd.C_drewN ?_ _) | (with_reducible refine Kd.C_drew ?_))); (case side2 => exact HC178_0.out); rintro e w' ⟨rfl, ⟨nd, rfl⟩⟩; (try first | exact ⟨rfl, _, World.drewN_drewN _ _ _⟩ | exact ⟨rfl, _, Eq.trans (World.drewN_drewN _ _ _) (congrArg (World.drewN _) (Nat.add_assoc _ _ _))⟩); have p180 : 0 ≤ (x3_1 : Int) := of_decide_eq_true (by first | (with_reducible assumption) | assumption); have q180 : x3_1 < (l0.length : Int) := of_decide_eq_true (by first | (with_reducible assumption) | assumption); obtain ⟨ad180, A180_0, c180_0, e180, hx180_0, hl180_0, hi180_0⟩ := at_L1 HR0.out x3_1 p180 q180; obtain rfl : ad178 = ad180 := (by injection e180); have HR180_0 := Aside0.mk hi180_0; have HC180_0 := Aside0.mk hl180_0; clear hi180_0 hl180_0; replace p180 := eq_true p180; replace q180 := eq_true q180; have ea_ := Option.some.inj (hx178_0.symm.trans hx180_0); injection ea_ with ea_ en_ ec_; subst ea_; subst ec_; clear en_; have p181 : 0 ≤ (0 : Int) := (by omega); have q181 : 0 < (l0.length : Int) := of_decide_eq_true (by first | (with_reducible assumption) | assumption); obtain ⟨ad181, A181_0, c181_0, e181, hx181_0, hl181_0, hi181_0⟩ := at_L1 HR0.out 0 p181 q181; obtain rfl : ad178 = ad181 := (by injection e181); have qi181 : (0 < l0.length) = True := eq_true (by omega); (try rw [show ((0 : Int)).toNat = 0 from rfl] at hx181_0); (try rw [Addr.add_zero'] at hx181_0); have HR181_0 := Aside0.mk hi181_0; have HC181_0 := Aside0.mk hl181_0; clear hi181_0 hl181_0; replace p181 := eq_true p181; replace q181 := eq_true q181)); try go_wp2_with (first | (go_at_call 52; (with_reducible refine (antiquaryref04_Valid.calls k1 _ _ (rd_L1 l0 x3_1) true _ ?side1 ?side2 A4.out).mono ?_); (case side1 => repeat (first | exact HR178_0.out | (with_reducible refine Kd.C_alloc ?_ _) | (with_reducible refine Kd.C_drewN ?_ _) | (with_reducible refine Kd.C_drew ?_))); (case side2 => exact HC178_0.out); rintro e w' ⟨rfl, ⟨nd, rfl⟩⟩; (try first | exact ⟨rfl, _, World.drewN_drewN _ _ _⟩ | exact ⟨rfl, _, Eq.trans (World.drewN_drewN _ _ _) (congrArg (World.drewN _) (Nat.add_assoc _ _ _))⟩); have p180 : 0 ≤ (x3_1 : Int) := of_decide_eq_true (by first | (with_reducible assumption) | assumption); have q180 : x3_1 < (l0.length : Int) := of_decide_eq_true (by first | (with_reducible assumption) | assumption); obtain ⟨ad180, A180_0, c180_0, e180, hx180_0, hl180_0, hi180_0⟩ := at_L1 HR0.out x3_1 p180 q180; obtain rfl : ad178 = ad180 := (by injection e180); have HR180_0 := Aside0.mk hi180_0; have HC180_0 := Aside0.mk hl180_0; clear hi180_0 hl180_0; replace p180 := eq_true p180; replace q180 := eq_true q180; have ea_ := Option.some.inj (hx178_0.symm.trans hx180_0); injection ea_ with ea_ en_ ec_; subst ea_; subst ec_; clear en_; have p181 : 0 ≤ (0 : Int) := (by omega); have q181 : 0 < (l0.length : Int) := of_decide_eq_true (by first | (with_reducible assumption) | assumption); obtain ⟨ad181, A181_0, c181_0, e181, hx181_0, hl181_0, hi181_0⟩ := at_L1 HR0.out 0 p181 q181; obtain rfl : ad178 = ad181 := (by injection e181); have qi181 : (0 < l0.length) = True := eq_true (by omega); (try rw [show ((0 : Int)).toNat = 0 from rfl] at hx181_0); (try rw [Addr.add_zero'] at hx181_0); have HR181_0 := Aside0.mk hi181_0; have HC181_0 := Aside0.mk hl181_0; clear hi181_0 hl181_0; replace p181 := eq_true p181; replace q181 := eq_true q181)))
                go_roundg k1
                case measure => have := HK1.out; omega
                case rel => exact ⟨(wrap64 (x3_1 + 1)), (by first | rfl | (simp; done) | (simp [*]; done)), H', ⟨by have := HK1.out; omega⟩, by repeat (first | exact Drawn0.refl _ | apply Drawn0.step)⟩
              · rw [if_neg c7] at H
                have c7b0 : (((rd_L1 l0 x3_1).length : Int) == ((rd_L1 l0 0).length : Int)) = false := beq_eq_false_iff_ne.mpr c7
                have c7b1 : (((rd_L1 l0 x3_1).length : Int) != ((rd_L1 l0 0).length : Int)) = true := bne_iff_ne.mpr c7
                have c7b2 : ((rd_L1 l0 x3_1).length == (rd_L1 l0 0).length) = false := by first | simpa using c7 | (simp at c7 ⊢; omega)
                obtain rfl := Option.some.inj H
                have p178 : 0 ≤ (x3_1 : Int) := of_decide_eq_true (by first | (with_reducible assumption) | assumption)
                have q178 : x3_1 < (l0.length : Int) := of_decide_eq_true (by first | (with_reducible assumption) | assumption)
                obtain ⟨ad178, A178_0, c178_0, e178, hx178_0, hl178_0, hi178_0⟩ := at_L1 HR0.out x3_1 p178 q178
                cases e178
                have HR178_0 := Aside0.mk hi178_0
                have HC178_0 := Aside0.mk hl178_0
                clear hi178_0 hl178_0
                replace p178 := eq_true p178
                replace q178 := eq_true q178
                go_wp2_with (first | (go_at_call 52; (with_reducible refine (antiquaryref04_Valid.calls k1 _ _ (rd_L1 l0 x3_1) true _ ?side1 ?side2 A4.out).mono ?_); (case side1 => repeat (first | exact HR178_0.out | (with_reducible refine Kd.C_alloc ?_ _) | (with_reducible refine Kd.C_drewN ?_ _) | (with_reducible refine Kd.C_drew ?_))); (case side2 => exact HC178_0.out); rintro e w' ⟨rfl, ⟨nd, rfl⟩⟩; (try first | exact ⟨rfl, _, World.drewN_drewN _ _ _⟩ | exact ⟨rfl, _, Eq.trans (World.drewN_drewN _ _ _) (congrArg (World.drewN _) (Nat.add_assoc _ _ _))⟩); have p180 : 0 ≤ (x3_1 : Int) := of_decide_eq_true (by first | (with_reducible assumption) | assumption); have q180 : x3_1 < (l0.length : Int) := of_decide_eq_true (by first | (with_reducible assumption) | assumption); obtain ⟨ad180, A180_0, c180_0, e180, hx180_0, hl180_0, hi180_0⟩ := at_L1 HR0.out x3_1 p180 q180; obtain rfl : ad178 = ad180 := (by injection e180); have HR180_0 := Aside0.mk hi180_0; have HC180_0 := Aside0.mk hl180_0; clear hi180_0 hl180_0; replace p180 := eq_true p180; replace q180 := eq_true q180; have ea_ := Option.some.inj (hx178_0.symm.trans hx180_0); injection ea_ with ea_ en_ ec_; subst ea_; subst ec_; clear en_; have p181 : 0 ≤ (0 : Int) := (by omega); have q181 : 0 < (l0.length : Int) := of_decide_eq_true (by first | (with_reducible assumption) | assumption); obtain ⟨ad181, A181_0, c181_0, e181, hx181_0, hl181_0, hi181_0⟩ := at_L1 HR0.out 0 p181 q181; obtain rfl : ad178 = ad181 := (by injection e181); have qi181 : (0 < l0.length) = True := eq_true (by omega); (try rw [show ((0 : Int)).toNat = 0 from rfl] at hx181_0); (try rw [Addr.add_zero'] at hx181_0); have HR181_0 := Aside0.mk hi181_0; have HC181_0 := Aside0.mk hl181_0; clear hi181_0 hl181_0; replace p181 := eq_true p181; replace q181 := eq_true q181))
                repeat (go_quiet (first | (go_at_call 52; (with_reducible refine (antiquaryref04_Valid.calls k1 _ _ (rd_L1 l0 x3_1) true _ ?side1 ?side2 A4.out).mono ?_); (case side1 => repeat (first | exact HR178_0.out | (with_reducible refine Kd.C_alloc ?_ _) | (with_reducible refine Kd.C_drewN ?_ _) | (with_reducible refine Kd.C_drew ?_))); (case side2 => exact HC178_0.out); rintro e w' ⟨rfl, ⟨nd, rfl⟩⟩; (try first | exact ⟨rfl, _, World.drewN_drewN _ _ _⟩ | exact ⟨rfl, _, Eq.trans (World.drewN_drewN _ _ _) (congrArg (World.drewN _) (Nat.add_assoc _ _ _))⟩); have p180 : 0 ≤ (x3_1 : Int) := of_decide_eq_true (by first | (with_reducible assumption) | assumption); have q180 : x3_1 < (l0.length : Int) := of_decide_eq_true (by first | (with_reducible assumption) | assumption); obtain ⟨ad180, A180_0, c180_0, e180, hx180_0, hl180_0, hi180_0⟩ := at_L1 HR0.out x3_1 p180 q180; obtain rfl : ad178 = ad180 := (by injection e180); have HR180_0 := Aside0.mk hi180_0; have HC180_0 := Aside0.mk hl180_0; clear hi180_0 hl180_0; replace p180 := eq_true p180; replace q180 := eq_true q180; have ea_ := Option.some.inj (hx178_0.symm.trans hx180_0); injection ea_ with ea_ en_ ec_; subst ea_; subst ec_; clear en_; have p181 : 0 ≤ (0 : Int) := (by omega); have q181 : 0 < (l0.length : Int) := of_decide_eq_true (by first | (with_reducible assumption) | assumption); obtain ⟨ad181, A181_0, c181_0, e181, hx181_0, hl181_0, hi181_0⟩ := at_L1 HR0.out 0 p181 q181; obtain rfl : ad178 = ad181 := (by injection e181); have qi181 : (0 < l0.length) = True := eq_true (by omega); (try rw [show ((0 : Int)).toNat = 0 from rfl] at hx181_0); (try rw [Addr.add_zero'] at hx181_0); have HR181_0 := Aside0.mk hi181_0; have HC181_0 := Aside0.mk hl181_0; clear hi181_0 hl181_0; replace p181 := eq_true p181; replace q181 := eq_true q181)); try go_wp2_with (first | (go_at_call 52; (with_reducible refine (antiquaryref04_Valid.calls k1 _ _ (rd_L1 l0 x3_1) true _ ?side1 ?side2 A4.out).mono ?_); (case side1 => repeat (first | exact HR178_0.out | (with_reducible refine Kd.C_alloc ?_ _) | (with_reducible refine Kd.C_drewN ?_ _) | (with_reducible refine Kd.C_drew ?_))); (case side2 => exact HC178_0.out); rintro e w' ⟨rfl, ⟨nd, rfl⟩⟩; (try first | exact ⟨rfl, _, World.drewN_drewN _ _ _⟩ | exact ⟨rfl, _, Eq.trans (World.drewN_drewN _ _ _) (congrArg (World.drewN _) (Nat.add_assoc _ _ _))⟩); have p180 : 0 ≤ (x3_1 : Int) := of_decide_eq_true (by first | (with_reducible assumption) | assumption); have q180 : x3_1 < (l0.length : Int) := of_decide_eq_true (by first | (with_reducible assumption) | assumption); obtain ⟨ad180, A180_0, c180_0, e180, hx180_0, hl180_0, hi180_0⟩ := at_L1 HR0.out x3_1 p180 q180; obtain rfl : ad178 = ad180 := (by injection e180); have HR180_0 := Aside0.mk hi180_0; have HC180_0 := Aside0.mk hl180_0; clear hi180_0 hl180_0; replace p180 := eq_true p180; replace q180 := eq_true q180; have ea_ := Option.some.inj (hx178_0.symm.trans hx180_0); injection ea_ with ea_ en_ ec_; subst ea_; subst ec_; clear en_; have p181 : 0 ≤ (0 : Int) := (by omega); have q181 : 0 < (l0.length : Int) := of_decide_eq_true (by first | (with_reducible assumption) | assumption); obtain ⟨ad181, A181_0, c181_0, e181, hx181_0, hl181_0, hi181_0⟩ := at_L1 HR0.out 0 p181 q181; obtain rfl : ad178 = ad181 := (by injection e181); have qi181 : (0 < l0.length) = True := eq_true (by omega); (try rw [show ((0 : Int)).toNat = 0 from rfl] at hx181_0); (try rw [Addr.add_zero'] at hx181_0); have HR181_0 := Aside0.mk hi181_0; have HC181_0 := Aside0.mk hl181_0; clear hi181_0 hl181_0; replace p181 := eq_true p181; replace q181 := eq_true q181)))
                go_ret
                exact ⟨by first | rfl | (simp; done) | (simp [*]; done), by repeat (first | exact Drawn0.refl _ | apply Drawn0.step)⟩
            · rw [if_neg c6] at H
              exact absurd H (by simp)
          · replace c5 := Bool.eq_false_iff.mpr c5
            subst c5
            have H1 : (some false) = some r := by rw [if_neg (show ¬ (false = true) by decide)] at H; exact H
            clear H
            have H := H1
            clear H1
            obtain rfl := Option.some.inj H
            have p178 : 0 ≤ (x3_1 : Int) := of_decide_eq_true (by first | (with_reducible assumption) | assumption)
            have q178 : x3_1 < (l0.length : Int) := of_decide_eq_true (by first | (with_reducible assumption) | assumption)
            obtain ⟨ad178, A178_0, c178_0, e178, hx178_0, hl178_0, hi178_0⟩ := at_L1 HR0.out x3_1 p178 q178
            cases e178
            have HR178_0 := Aside0.mk hi178_0
            have HC178_0 := Aside0.mk hl178_0
            clear hi178_0 hl178_0
            replace p178 := eq_true p178
            replace q178 := eq_true q178
            go_wp2_with (first | (go_at_call 52; (with_reducible refine (antiquaryref04_Valid.calls k1 _ _ (rd_L1 l0 x3_1) false _ ?side1 ?side2 A4.out).mono ?_); (case side1 => repeat (first | exact HR178_0.out | (with_reducible refine Kd.C_alloc ?_ _) | (with_reducible refine Kd.C_drewN ?_ _) | (with_reducible refine Kd.C_drew ?_))); (case side2 => exact HC178_0.out); rintro e w' ⟨rfl, ⟨nd, rfl⟩⟩; (try first | exact ⟨rfl, _, World.drewN_drewN _ _ _⟩ | exact ⟨rfl, _, Eq.trans (World.drewN_drewN _ _ _) (congrArg (World.drewN _) (Nat.add_assoc _ _ _))⟩)))
            repeat (go_quiet (first | (go_at_call 52; (with_reducible refine (antiquaryref04_Valid.calls k1 _ _ (rd_L1 l0 x3_1) false _ ?side1 ?side2 A4.out).mono ?_); (case side1 => repeat (first | exact HR178_0.out | (with_reducible refine Kd.C_alloc ?_ _) | (with_reducible refine Kd.C_drewN ?_ _) | (with_reducible refine Kd.C_drew ?_))); (case side2 => exact HC178_0.out); rintro e w' ⟨rfl, ⟨nd, rfl⟩⟩; (try first | exact ⟨rfl, _, World.drewN_drewN _ _ _⟩ | exact ⟨rfl, _, Eq.trans (World.drewN_drewN _ _ _) (congrArg (World.drewN _) (Nat.add_assoc _ _ _))⟩))); try go_wp2_with (first | (go_at_call 52; (with_reducible refine (antiquaryref04_Valid.calls k1 _ _ (rd_L1 l0 x3_1) false _ ?side1 ?side2 A4.out).mono ?_); (case side1 => repeat (first | exact HR178_0.out | (with_reducible refine Kd.C_alloc ?_ _) | (with_reducible refine Kd.C_drewN ?_ _) | (with_reducible refine Kd.C_drew ?_))); (case side2 => exact HC178_0.out); rintro e w' ⟨rfl, ⟨nd, rfl⟩⟩; (try first | exact ⟨rfl, _, World.drewN_drewN _ _ _⟩ | exact ⟨rfl, _, Eq.trans (World.drewN_drewN _ _ _) (congrArg (World.drewN _) (Nat.add_assoc _ _ _))⟩))))
            go_ret
            exact ⟨by first | rfl | (simp; done) | (simp [*]; done), by repeat (first | exact Drawn0.refl _ | apply Drawn0.step)⟩
        · rw [if_neg c3] at H
          exact absurd H (by simp)
      · rw [if_neg c2] at H
        have c2b0 : decide (x3_1 < (l0.length : Int)) = false := decide_eq_false c2
        clear c2
        by_cases c8 : (l0.length : Int) ≥ 1
        · rw [if_pos c8] at H
          have c8b0 : decide (1 ≤ (l0.length : Int)) = true := decide_eq_true c8
          have c8b1 : decide (1 ≤ l0.length) = true := decide_eq_true (by omega)
          clear c8
          obtain rfl := Option.some.inj H
          go_wp2
          repeat (go_quiet (fail); try go_wp2)
          go_ret
          exact ⟨by first | rfl | (simp; done) | (simp [*]; done), by repeat (first | exact Drawn0.refl _ | apply Drawn0.step)⟩
        · rw [if_neg c8] at H
          have c8b0 : decide (1 ≤ (l0.length : Int)) = false := decide_eq_false c8
          have c8b1 : decide (1 ≤ l0.length) = false := decide_eq_false (by omega)
          clear c8
          obtain rfl := Option.some.inj H
          go_wp2
          repeat (go_quiet (fail); try go_wp2)
          go_ret
          exact ⟨by first | rfl | (simp; done) | (simp [*]; done), by repeat (first | exact Drawn0.refl _ | apply Drawn0.step)⟩
open Go.Proofs.YthbkomkgciemiaaGreat.RF
def fewL (l : List (List Int)) : Prop := l.length ≤ 25 ∧ ∀ v ∈ l, v.length ≤ 40
def fewG (g : List Hd) : Prop := g.length ≤ 30 ∧ ∀ h ∈ g, h.f1.length ≤ 40
theorem few09_loop (l : List (List Int)) (hl : l.length ≤ 25) (d : Nat) : ∀ i : Nat, i + d = l.length → ∃ k r, antiquaryref09_Few.l0 k l i = some r ∧ (r = true → ∀ j : Nat, i ≤ j → j < l.length → (rdL l j).length ≤ 40) := by
  induction d with
  | zero =>
    intro i hi
    refine ⟨1, true, ?_, fun _ j h1 h2 => by omega⟩
    unfold antiquaryref09_Few.l0; rw [if_neg (by omega)]
  | succ d ih =>
    intro i hi
    obtain ⟨k, r, h1, h2⟩ := ih (i + 1) (by omega)
    by_cases c : ((rdL l i).length : Int) > 40
    · refine ⟨1, false, ?_, fun h => by cases h⟩
      unfold antiquaryref09_Few.l0; rw [if_pos (by omega), if_pos (by omega)]; exact if_pos c
    · refine ⟨k + 1, r, ?_, fun h j h3 h4 => ?_⟩
      · unfold antiquaryref09_Few.l0; rw [if_pos (by omega), if_pos (by omega)]
        refine (if_neg c).trans ?_
        rw [w64 (by omega)]; exact h1
      · rcases Nat.lt_or_ge i j with h5 | h5
        · exact h2 h j h5 h4
        · have : j = i := by omega
          subst this; omega
theorem rdL_get (l : List (List Int)) (j : Nat) (h : j < l.length) : rdL l j = l[j] := by simp [rdL, h]
theorem few09_ex (l : List (List Int)) : ∃ k r, antiquaryref09_Few.f k l 25 = some r ∧ (r = true → fewL l) := by
  by_cases c : (l.length : Int) > 25
  · exact ⟨0, false, by unfold antiquaryref09_Few.f; rw [if_pos c], fun h => by cases h⟩
  · obtain ⟨k, r, h1, h2⟩ := few09_loop l (by omega) l.length 0 (by omega)
    refine ⟨k, r, by unfold antiquaryref09_Few.f; rw [if_neg c]; exact h1, fun h => ⟨by omega, fun v hv => ?_⟩⟩
    obtain ⟨j, hj, rfl⟩ := List.mem_iff_getElem.1 hv
    have := h2 h j (Nat.zero_le _) hj
    rwa [rdL_get l j hj] at this
theorem few27_loop (g : List Hd) (hl : g.length ≤ 30) (d : Nat) : ∀ i : Nat, i + d = g.length → ∃ k r, antiquaryref27_Few.l0 k i g = some r ∧ (r = true → ∀ j : Nat, i ≤ j → j < g.length → (rd_T61 g j).f1.length ≤ 40) := by
  induction d with
  | zero =>
    intro i hi
    refine ⟨1, true, ?_, fun _ j h1 h2 => by omega⟩
    unfold antiquaryref27_Few.l0; rw [if_neg (by omega)]
  | succ d ih =>
    intro i hi
    obtain ⟨k, r, h1, h2⟩ := ih (i + 1) (by omega)
    by_cases c : ((rd_T61 g i).f1.length : Int) > 40
    · refine ⟨1, false, ?_, fun h => by cases h⟩
      unfold antiquaryref27_Few.l0; rw [if_pos (by omega), if_pos (by omega), if_pos c]
    · refine ⟨k + 1, r, ?_, fun h j h3 h4 => ?_⟩
      · unfold antiquaryref27_Few.l0; rw [if_pos (by omega), if_pos (by omega), if_neg c, w64 (by omega)]; exact h1
      · rcases Nat.lt_or_ge i j with h5 | h5
        · exact h2 h j h5 h4
        · have : j = i := by omega
          subst this; omega
theorem rdT_get (g : List Hd) (j : Nat) (h : j < g.length) : rd_T61 g j = g[j] := by unfold rd_T61; simp [h]
theorem few27_ex (g : List Hd) : ∃ k r, antiquaryref27_Few.f k g = some r ∧ (r = true → fewG g) := by
  by_cases c : (g.length : Int) > 30
  · exact ⟨0, false, by unfold antiquaryref27_Few.f; rw [if_pos c], fun h => by cases h⟩
  · obtain ⟨k, r, h1, h2⟩ := few27_loop g (by omega) g.length 0 (by omega)
    refine ⟨k, r, by unfold antiquaryref27_Few.f; rw [if_neg c]; exact h1, fun h => ⟨by omega, fun v hv => ?_⟩⟩
    obtain ⟨j, hj, rfl⟩ := List.mem_iff_getElem.1 hv
    have := h2 h j (Nat.zero_le _) hj
    rwa [rdT_get g j hj] at this
theorem metric09 (m : Int) : antiquaryref09_Metric.f m = some (decide (1 ≤ m ∧ m ≤ 3)) := by
  unfold antiquaryref09_Metric.f
  by_cases c : m ≥ 1
  · rw [if_pos c]; congr 1; by_cases c2 : m ≤ 3 <;> simp [c2] <;> omega
  · rw [if_neg c]; congr 1; symm; simp; omega
theorem valid04_loop (v : List Int) (hv : v.length ≤ 9223372036854775807) (d : Nat) : ∀ i : Nat, i + d = v.length → (∀ j : Nat, j < i → -1000 ≤ rd v j ∧ rd v j ≤ 1000) → ∃ k, antiquaryref04_Valid.l0 k v i = some (validV v) := by
  induction d with
  | zero =>
    intro i hi hb
    have hall : ∀ x ∈ v, -1000 ≤ x ∧ x ≤ 1000 := by
      intro x hx
      obtain ⟨j, hj, rfl⟩ := mem_iff_rd.1 hx
      exact hb j (by omega)
    refine ⟨1, ?_⟩
    unfold antiquaryref04_Valid.l0
    rw [if_neg (by omega)]
    by_cases c1 : (v.length : Int) ≥ 1
    · rw [if_pos c1]; congr 1
      by_cases c2 : (v.length : Int) ≤ 32
      · rw [decide_eq_true c2]; exact (validV_iff.2 ⟨hall, by omega, by omega⟩).symm
      · rw [decide_eq_false c2]; symm
        cases hvv : validV v with
        | false => rfl
        | true => have := (validV_iff.1 hvv).2.2; omega
    · rw [if_neg c1]; congr 1; symm
      cases hvv : validV v with
      | false => rfl
      | true => have := (validV_iff.1 hvv).2.1; omega
  | succ d ih =>
    intro i hi hb
    have hno : ¬ (-1000 ≤ rd v i ∧ rd v i ≤ 1000) → validV v = false := by
      intro hn
      cases hvv : validV v with
      | false => rfl
      | true => exact absurd ((validV_iff.1 hvv).1 _ (rd_mem (by omega) (by omega))) hn
    by_cases c1 : rd v i < -1000
    · refine ⟨1, ?_⟩
      unfold antiquaryref04_Valid.l0
      rw [if_pos (by omega), if_pos (by omega), if_pos c1, hno (by omega)]
    · by_cases c2 : rd v i > 1000
      · refine ⟨1, ?_⟩
        unfold antiquaryref04_Valid.l0
        rw [if_pos (by omega), if_pos (by omega), if_neg c1, if_pos c2, hno (by omega)]
      · obtain ⟨k, h⟩ := ih (i + 1) (by omega) (fun j hj => by
          rcases Nat.lt_or_ge j i with h5 | h5
          · exact hb j h5
          · have : j = i := by omega
            subst this; omega)
        refine ⟨k + 1, ?_⟩
        unfold antiquaryref04_Valid.l0
        rw [if_pos (by omega), if_pos (by omega), if_neg c1, if_neg c2, w64 (by omega)]; exact h
theorem valid04_ex (v : List Int) (hv : v.length ≤ 9223372036854775807) : ∃ k, antiquaryref04_Valid.f k v = some (validV v) := valid04_loop v hv v.length 0 (by omega) (fun j hj => by omega)
theorem rd_L1_eq (l : List (List Int)) (i : Int) : rd_L1 l i = rdL l i := rfl
def FitL (l : List (List Int)) : Prop := (1 ≤ l.length ∧ l.length ≤ 4096) ∧ ∀ v ∈ l, validV v = true ∧ v.length = (rdL l 0).length
theorem fit_loop (l : List (List Int)) (hl : fewL l) (d : Nat) : ∀ i : Nat, i + d = l.length → (∀ j : Nat, j < i → validV (rdL l j) = true ∧ (rdL l j).length = (rdL l 0).length) → ∃ k r, antiquaryref09_Fit.l0 k l i = some r ∧ (r = true ↔ FitL l) := by
  induction d with
  | zero =>
    intro i hi hb
    have hall : ∀ v ∈ l, validV v = true ∧ v.length = (rdL l 0).length := by
      intro v hv
      obtain ⟨j, hj, rfl⟩ := List.mem_iff_getElem.1 hv
      have := hb j (by omega)
      rwa [rdL_get l j hj] at this
    by_cases c1 : (l.length : Int) ≥ 1
    · refine ⟨1, decide ((l.length : Int) ≤ 4096), ?_, ?_⟩
      · unfold antiquaryref09_Fit.l0; rw [if_neg (by omega), if_pos c1]
      · rw [decide_eq_true_iff]
        exact ⟨fun h => ⟨⟨by omega, by omega⟩, hall⟩, fun h => by have := h.1.2; omega⟩
    · refine ⟨1, false, ?_, ⟨fun h => (by cases h), fun h => by have := h.1.1; omega⟩⟩
      unfold antiquaryref09_Fit.l0; rw [if_neg (by omega), if_neg c1]
  | succ d ih =>
    intro i hi hb
    have hmem : rdL l i ∈ l := rdL_mem (by omega) (by omega)
    have h40 := hl.2 _ hmem
    have h25 := hl.1
    obtain ⟨kv, hv⟩ := valid04_ex (rdL l i) (by omega)
    cases hvv : validV (rdL l i) with
    | false =>
      refine ⟨kv + 1, false, ?_, ⟨fun h => (by cases h), fun h => by have := (h.2 _ hmem).1; rw [hvv] at this; cases this⟩⟩
      unfold antiquaryref09_Fit.l0
      rw [if_pos (by omega), if_pos (by omega), rd_L1_eq, hv, hvv]; rfl
    | true =>
      by_cases c : ((rdL l i).length : Int) = ((rdL l 0).length : Int)
      · obtain ⟨k, r, h1, h2⟩ := ih (i + 1) (by omega) (fun j hj => by
          rcases Nat.lt_or_ge j i with h5 | h5
          · exact hb j h5
          · have : j = i := by omega
            subst this; exact ⟨hvv, by omega⟩)
        refine ⟨k + kv + 1, r, ?_, h2⟩
        unfold antiquaryref09_Fit.l0
        rw [if_pos (by omega), if_pos (by omega), rd_L1_eq, up_le (antiquaryref04_Valid.mono _) hv (show kv ≤ k + kv by omega), hvv]
        rw [Option.bind_some]
        rw [if_pos rfl, if_pos (by omega), rd_L1_eq, if_pos c, w64 (by omega)]
        exact up_le (f := fun k => antiquaryref09_Fit.l0 k l ((i : Int) + 1)) (fun k => antiquaryref09_Fit.mono_l k _ _) h1 (by omega)
      · refine ⟨kv + 1, false, ?_, ⟨fun h => (by cases h), fun h => by have := (h.2 _ hmem).2; omega⟩⟩
        unfold antiquaryref09_Fit.l0
        rw [if_pos (by omega), if_pos (by omega), rd_L1_eq, hv, hvv]
        rw [Option.bind_some]
        rw [if_pos rfl, if_pos (by omega), rd_L1_eq, if_neg c]
theorem fit_ex (l : List (List Int)) (hl : fewL l) : ∃ k r, antiquaryref09_Fit.f k l = some r ∧ (r = true ↔ FitL l) := fit_loop l hl l.length 0 (by omega) (fun j hj => by omega)
theorem right_iff_fit {m : Int} {l : List (List Int)} : rightF m l = true ↔ (1 ≤ m ∧ m ≤ 3) ∧ FitL l := by
  rw [rightF_iff]
  unfold FitL
  constructor
  · rintro ⟨h1, h2, h3⟩
    exact ⟨h1, h2, fun v hv => ⟨(alikeF_iff.1 (h3 v hv)).2.2, (alikeF_iff.1 (h3 v hv)).1.symm⟩⟩
  · rintro ⟨h1, h2, h3⟩
    refine ⟨h1, h2, fun v hv => alikeF_iff.2 ⟨(h3 v hv).2.symm, (h3 _ (rdL_mem (by omega) (by omega))).1, (h3 v hv).1⟩⟩
theorem same_loop (a b : List Int) (hl : a.length = b.length) (ha : a.length ≤ 4096) (d : Nat) : ∀ i : Nat, i + d = a.length → ∃ k r, antiquaryref27_Same.l0 k a b i = some r ∧ (r = true ↔ ∀ j : Nat, i ≤ j → j < a.length → rd a j = rd b j) := by
  induction d with
  | zero =>
    intro i hi
    refine ⟨1, true, ?_, ⟨fun _ j h1 h2 => by omega, fun _ => rfl⟩⟩
    unfold antiquaryref27_Same.l0; rw [if_neg (by omega)]
  | succ d ih =>
    intro i hi
    by_cases c : rd a i = rd b i
    · obtain ⟨k, r, h1, h2⟩ := ih (i + 1) (by omega)
      refine ⟨k + 1, r, ?_, ?_⟩
      · unfold antiquaryref27_Same.l0; rw [if_pos (by omega), if_pos (by omega), if_pos (by omega), if_pos c, w64 (by omega)]; exact h1
      · rw [h2]
        constructor
        · intro h j h3 h4
          rcases Nat.lt_or_ge i j with h5 | h5
          · exact h j h5 h4
          · have : j = i := by omega
            subst this; exact c
        · intro h j h3 h4; exact h j (by omega) h4
    · refine ⟨1, false, ?_, ⟨fun h => (by cases h), fun h => absurd (h i (Nat.le_refl _) (by omega)) c⟩⟩
      unfold antiquaryref27_Same.l0; rw [if_pos (by omega), if_pos (by omega), if_pos (by omega), if_neg c]
theorem same_ex (a b : List Int) (ha : a.length ≤ 4096) : ∃ k, antiquaryref27_Same.f k a b = some (decide (a = b)) := by
  by_cases c : (a.length : Int) = (b.length : Int)
  · obtain ⟨k, r, h1, h2⟩ := same_loop a b (by omega) ha a.length 0 (by omega)
    refine ⟨k, ?_⟩
    unfold antiquaryref27_Same.f; rw [if_pos c]
    refine h1.trans ?_
    congr 1
    have : r = true ↔ a = b := by
      rw [h2]
      constructor
      · intro h
        refine List.ext_getElem (by omega) fun j hj hj' => ?_
        have := h j (Nat.zero_le _) hj
        simpa [rd, hj, hj'] using this
      · rintro rfl j _ _; rfl
    cases r with
    | true => exact (decide_eq_true (this.1 rfl)).symm
    | false => symm; rw [decide_eq_false_iff_not]; intro h; have := this.2 h; cases this
  · refine ⟨0, ?_⟩
    unfold antiquaryref27_Same.f; rw [if_neg c]
    congr 1; symm; rw [decide_eq_false_iff_not]; rintro rfl; exact c rfl
theorem sub04_loop (a b : List Int) (h : alikeF a b = true) (d : Nat) : ∀ i : Nat, i + d = a.length → ∃ k, antiquaryref04_Sub.l0 k a b ((subV a b).take i) i = some (subV a b) := by
  obtain ⟨hl, ha, hb⟩ := alikeF_iff.1 h
  obtain ⟨ha1, ha2, ha3⟩ := validV_iff.1 ha
  obtain ⟨hb1, hb2, hb3⟩ := validV_iff.1 hb
  have hsl := subV_length a b hl
  induction d with
  | zero =>
    intro i hi
    refine ⟨1, ?_⟩
    unfold antiquaryref04_Sub.l0; rw [if_neg (by omega), List.take_of_length_le (by omega)]
  | succ d ih =>
    intro i hi
    obtain ⟨k, h1⟩ := ih (i + 1) (by omega)
    refine ⟨k + 1, ?_⟩
    have r1 := ha1 _ (rd_mem (l := a) (i := (i : Int)) (by omega) (by omega))
    have r2 := hb1 _ (rd_mem (l := b) (i := (i : Int)) (by omega) (by omega))
    unfold antiquaryref04_Sub.l0
    rw [if_pos (by omega), if_pos (by omega), if_pos (by omega), if_pos (by simp; omega), w64 (by omega), w64 (by omega), ← rd_subV a b hl i (by omega), ← take_succ_rd _ _ (by omega)]
    exact h1
theorem sub04_ex (a b : List Int) (h : alikeF a b = true) : ∃ k, antiquaryref04_Sub.f k a b = some (subV a b) := by
  obtain ⟨k, h1⟩ := sub04_loop a b h a.length 0 (by omega)
  exact ⟨k, by simpa [antiquaryref04_Sub.f] using h1⟩
theorem size04 (x : Int) (h : small x) : antiquaryref04_size.f x = some (mx x (-x)) := by
  obtain ⟨h1, h2⟩ := h
  unfold antiquaryref04_size.f mx
  by_cases c : x < 0
  · rw [if_pos c, w64 (by omega)]; congr 1; split <;> omega
  · rw [if_neg c]; congr 1; split <;> omega
theorem norm04_loop (m : Int) (hm : 1 ≤ m ∧ m ≤ 3) (v : List Int) (hv : ∀ x ∈ v, small x) (hl : v.length ≤ 100) (d : Nat) : ∀ i : Nat, i + d = v.length → ∃ k, antiquaryref04_Norm.l0 k m v (normF m (v.take i)) i = some (normF m v) := by
  induction d with
  | zero =>
    intro i hi
    refine ⟨1, ?_⟩
    unfold antiquaryref04_Norm.l0; rw [if_neg (by omega), List.take_of_length_le (by omega)]
  | succ d ih =>
    intro i hi
    obtain ⟨k, h1⟩ := ih (i + 1) (by omega)
    have hs := hv _ (rd_mem (l := v) (i := (i : Int)) (by omega) (by omega))
    have hb := normF_bd m (v.take i) (fun x hx => hv x (List.mem_of_mem_take hx))
    have hb2 := normF_bd m (v.take (i + 1)) (fun x hx => hv x (List.mem_of_mem_take hx))
    have hti : (v.take i).length ≤ 100 := by simp; omega
    have hti2 : (v.take (i + 1)).length ≤ 100 := by simp; omega
    have hsq := sq_small _ hs
    rw [normF_take_succ m v i (by omega)] at h1 hb2
    refine ⟨k + 1, ?_⟩
    unfold antiquaryref04_Norm.l0
    rw [if_pos (by omega)]
    by_cases c1 : m = 1
    · rw [if_pos c1, if_pos (by omega), size04 _ hs, Option.bind_some]
      have e : stepN m (normF m (v.take i)) (rd v i) = normF m (v.take i) + mx (rd v i) (-(rd v i)) := by unfold stepN; rw [if_pos c1]
      rw [e] at h1 hb2
      rw [w64 (by omega), w64 (by omega)]
      exact h1
    · by_cases c2 : m = 2
      · have e : stepN m (normF m (v.take i)) (rd v i) = normF m (v.take i) + rd v i * rd v i := by unfold stepN; rw [if_neg c1, if_pos c2]
        rw [e] at h1 hb2
        rw [if_neg c1, if_pos c2, if_pos (by omega), w64 (i := rd v i * rd v i) (by omega), w64 (by omega), w64 (by omega)]
        exact h1
      · have e : stepN m (normF m (v.take i)) (rd v i) = mx (normF m (v.take i)) (mx (rd v i) (-(rd v i))) := by
          unfold stepN; rw [if_neg c1, if_neg c2]; unfold mx; repeat' split
          all_goals omega
        rw [e] at h1
        rw [if_neg c1, if_neg c2, if_pos (by omega), size04 _ hs, Option.bind_some]
        rw [w64 (by omega)]
        exact h1
theorem norm04_ex (m : Int) (hm : 1 ≤ m ∧ m ≤ 3) (v : List Int) (hv : ∀ x ∈ v, small x) (hl : v.length ≤ 100) : ∃ k, antiquaryref04_Norm.f k m v = some (normF m v) := by
  obtain ⟨k, h⟩ := norm04_loop m hm v hv hl v.length 0 (by omega)
  exact ⟨k, by simpa [antiquaryref04_Norm.f, normF] using h⟩
theorem key04_ex (m : Int) (hm : 1 ≤ m ∧ m ≤ 3) (a b : List Int) (h : alikeF a b = true) : ∃ k, antiquaryref04_Key.f k m a b = some (keyV m a b) := by
  obtain ⟨hl, ha, hb⟩ := alikeF_iff.1 h
  obtain ⟨ha1, ha2, ha3⟩ := validV_iff.1 ha
  obtain ⟨hb1, hb2, hb3⟩ := validV_iff.1 hb
  obtain ⟨k1, h1⟩ := sub04_ex a b h
  obtain ⟨k2, h2⟩ := norm04_ex m hm (subV a b) (subV_small a b ha1 hb1) (by rw [subV_length a b hl]; omega)
  refine ⟨k1 + k2, ?_⟩
  unfold antiquaryref04_Key.f
  rw [up_le (antiquaryref04_Sub.mono _ _) h1 (by omega), Option.bind_some, up_le (antiquaryref04_Norm.mono _ _) h2 (by omega)]
  rfl
theorem has_loop (xs : List Int) (x : Int) (hx : xs.length ≤ 4096) (d : Nat) : ∀ i : Nat, i + d = xs.length → ∃ k r, antiquaryref27_has.l0 k xs x i = some r ∧ (r = true ↔ ∃ q : Nat, i ≤ q ∧ q < xs.length ∧ rd xs q = x) := by
  induction d with
  | zero =>
    intro i hi
    refine ⟨1, false, ?_, ⟨fun h => (by cases h), fun ⟨q, h1, h2, _⟩ => by omega⟩⟩
    unfold antiquaryref27_has.l0; rw [if_neg (by omega)]
  | succ d ih =>
    intro i hi
    by_cases he : rd xs i = x
    · refine ⟨1, true, ?_, ⟨fun _ => ⟨i, Nat.le_refl _, by omega, he⟩, fun _ => rfl⟩⟩
      unfold antiquaryref27_has.l0; rw [if_pos (by omega), if_pos (by omega), if_pos he]
    · obtain ⟨k, r, h1, h2⟩ := ih (i + 1) (by omega)
      refine ⟨k + 1, r, ?_, ?_⟩
      · unfold antiquaryref27_has.l0; rw [if_pos (by omega), if_pos (by omega), if_neg he, w64 (by omega)]; exact h1
      · rw [h2]
        constructor
        · rintro ⟨q, h3, h4, h5⟩; exact ⟨q, by omega, h4, h5⟩
        · rintro ⟨q, h3, h4, h5⟩
          refine ⟨q, ?_, h4, h5⟩
          rcases Nat.lt_or_ge i q with h | h
          · omega
          · have : q = i := by omega
            subst this; exact absurd h5 he
theorem has_ex (xs : List Int) (x : Int) (hx : xs.length ≤ 4096) : ∃ k r, antiquaryref27_has.f k xs x = some r ∧ (r = true ↔ x ∈ xs) := by
  obtain ⟨k, r, h1, h2⟩ := has_loop xs x hx xs.length 0 (by omega)
  refine ⟨k, r, h1, h2.trans ?_⟩
  rw [mem_iff_rd]
  exact ⟨fun ⟨q, _, h3, h4⟩ => ⟨q, h3, h4⟩, fun ⟨q, h3, h4⟩ => ⟨q, Nat.zero_le _, h3, h4⟩⟩
theorem v27_l1 (n : Int) (g : List Hd) (i : Nat) (radius : Int) (xs : List Int) (hx : xs.length ≤ 4096) (hi : (i : Int) < 4611686018427387904) (b : Bool) (k0 : Nat) (h0 : antiquaryref27_Valid.l0 k0 n ((i : Int) + 1) g = some b) (d : Nat) : ∀ p : Nat, p + d = xs.length →
    ∃ k r, antiquaryref27_Valid.l1 k n i p g radius xs = some r ∧ (r = true ↔ (∀ q : Nat, p ≤ q → q < xs.length → okAt n xs q) ∧ b = true) := by
  induction d with
  | zero =>
    intro p hp
    refine ⟨k0 + 1, b, ?_, ?_⟩
    · unfold antiquaryref27_Valid.l1
      rw [if_neg (by omega), w64 (by omega)]
      exact h0
    · constructor
      · intro h; exact ⟨fun q h1 h2 => by omega, h⟩
      · exact fun h => h.2
  | succ d ih =>
    intro p hp
    by_cases c1 : rd xs p < 0
    · refine ⟨1, false, ?_, ?_⟩
      · unfold antiquaryref27_Valid.l1; rw [if_pos (by omega), if_pos (by omega), if_pos c1]
      · constructor
        · intro h; cases h
        · rintro ⟨h, _⟩; have := (h p (Nat.le_refl _) (by omega)).1; omega
    · by_cases c2 : rd xs p ≥ n
      · refine ⟨1, false, ?_, ?_⟩
        · unfold antiquaryref27_Valid.l1; rw [if_pos (by omega), if_pos (by omega), if_neg c1, if_pos c2]
        · constructor
          · intro h; cases h
          · rintro ⟨h, _⟩; have := (h p (Nat.le_refl _) (by omega)).2.1; omega
      · obtain ⟨k, r, h1, h2⟩ := ih (p + 1) (by omega)
        have hiff : ∀ hq : okAt n xs p, ((∀ q : Nat, p + 1 ≤ q → q < xs.length → okAt n xs q) ∧ b = true ↔ (∀ q : Nat, p ≤ q → q < xs.length → okAt n xs q) ∧ b = true) := by
          intro hq
          constructor
          · rintro ⟨h, hb⟩
            refine ⟨fun q h3 h4 => ?_, hb⟩
            rcases Nat.lt_or_ge p q with h5 | h5
            · exact h q h5 h4
            · have : q = p := by omega
              subst this; exact hq
          · rintro ⟨h, hb⟩; exact ⟨fun q h3 h4 => h q (by omega) h4, hb⟩
        by_cases c3 : (p : Int) > 0
        · by_cases c4 : rd xs p ≤ rd xs ((p : Int) - 1)
          · refine ⟨1, false, ?_, ?_⟩
            · unfold antiquaryref27_Valid.l1
              rw [if_pos (by omega), if_pos (by omega), if_neg c1, if_neg c2, if_pos c3, w64 (i := (p : Int) - 1) (by omega), if_pos (by omega), if_pos (by omega), if_pos c4]
            · constructor
              · intro h; cases h
              · rintro ⟨h, _⟩; have := (h p (Nat.le_refl _) (by omega)).2.2 (by omega); omega
          · refine ⟨k + 1, r, ?_, ?_⟩
            · unfold antiquaryref27_Valid.l1
              rw [if_pos (by omega), if_pos (by omega), if_neg c1, if_neg c2, if_pos c3, w64 (i := (p : Int) - 1) (by omega), if_pos (by omega), if_pos (by omega), if_neg c4, w64 (by omega)]
              exact h1
            · rw [h2]; exact hiff ⟨by omega, by omega, fun _ => by omega⟩
        · refine ⟨k + 1, r, ?_, ?_⟩
          · unfold antiquaryref27_Valid.l1
            rw [if_pos (by omega), if_pos (by omega), if_neg c1, if_neg c2, if_neg c3, w64 (by omega)]
            exact h1
          · rw [h2]; exact hiff ⟨by omega, by omega, fun _ => by omega⟩
theorem v27_l0 (g : List Hd) (hs : ∀ h ∈ g, h.f1.length ≤ 4096) (hl : g.length ≤ 4096) (n : Int) (hn : (g.length : Int) = n) (d : Nat) : ∀ i : Nat, i + d = g.length →
    ∃ k r, antiquaryref27_Valid.l0 k n i g = some r ∧ (r = true ↔ ∀ j : Nat, i ≤ j → j < g.length → hoodOk n j (rd_T61 g j)) := by
  induction d with
  | zero =>
    intro i hi
    refine ⟨1, true, ?_, ⟨fun _ j h1 h2 => by omega, fun _ => rfl⟩⟩
    unfold antiquaryref27_Valid.l0; rw [if_neg (by omega)]
  | succ d ih =>
    intro i hi
    obtain ⟨k0, b, h1, h2⟩ := ih (i + 1) (by omega)
    have hlen := hs _ (rd_T_mem (g := g) (i := (i : Int)) (by omega) (by omega))
    obtain ⟨k1, r1, h3, h4⟩ := v27_l1 n g i (rd_T61 g i).f0 (rd_T61 g i).f1 hlen (by omega) b k0 h1 (rd_T61 g i).f1.length 0 (by omega)
    obtain ⟨k2, r2, h5, h6⟩ := has_ex (rd_T61 g i).f1 i hlen
    have hsplit : (∀ j : Nat, i ≤ j → j < g.length → hoodOk n j (rd_T61 g j)) ↔ (hoodOk n i (rd_T61 g i) ∧ b = true) := by
      rw [h2]
      constructor
      · intro h; exact ⟨h i (Nat.le_refl _) (by omega), fun j h7 h8 => h j (by omega) h8⟩
      · rintro ⟨h7, h8⟩ j h9 h10
        rcases Nat.lt_or_ge i j with h11 | h11
        · exact h8 j h11 h10
        · have : j = i := by omega
          subst this; exact h7
    rw [hood_split] at hsplit
    by_cases c1 : (rd_T61 g i).f0 < 0
    · refine ⟨2, false, ?_, ?_⟩
      · unfold antiquaryref27_Valid.l0
        rw [if_pos (by omega), if_pos (by omega), if_pos (by omega), if_pos c1]; rfl
      · rw [hsplit]; exact ⟨fun h => (by cases h), fun h => absurd c1 h.1.1⟩
    · by_cases c2 : (rd_T61 g i).f0 > 134217728
      · refine ⟨2, false, ?_, ?_⟩
        · unfold antiquaryref27_Valid.l0
          rw [if_pos (by omega), if_pos (by omega), if_pos (by omega), if_neg c1, if_pos c2]; rfl
        · rw [hsplit]; exact ⟨fun h => (by cases h), fun h => absurd c2 h.1.2.1⟩
      · cases hr2 : r2 with
        | false =>
          refine ⟨k2 + 2, false, ?_, ?_⟩
          · unfold antiquaryref27_Valid.l0
            rw [if_pos (by omega), if_pos (by omega), if_pos (by omega), if_neg c1, if_neg c2, up_le (antiquaryref27_has.mono _ _) h5 (show k2 ≤ k2 + 1 by omega), hr2]; rfl
          · rw [hsplit]; exact ⟨fun h => (by cases h), fun h => by have := h6.2 h.1.2.2.1; rw [hr2] at this; cases this⟩
        | true =>
          refine ⟨k1 + k2 + 2, r1, ?_, ?_⟩
          · unfold antiquaryref27_Valid.l0
            rw [if_pos (by omega), if_pos (by omega), if_pos (by omega), if_neg c1, if_neg c2, up_le (antiquaryref27_has.mono _ _) h5 (show k2 ≤ k1 + k2 + 1 by omega), hr2]
            show antiquaryref27_Valid.j2 (k1 + k2 + 1) n i (!true) g _ _ = some r1
            unfold antiquaryref27_Valid.j2
            rw [if_neg (by simp)]
            exact up_le (f := fun k => antiquaryref27_Valid.l1 k n i 0 g (rd_T61 g i).f0 (rd_T61 g i).f1) (fun k => (antiquaryref27_Valid.mono_l k).2.2.2 _ _ _ _ _ _) h3 (by omega)
          · rw [h4, hsplit]
            constructor
            · rintro ⟨h7, h8⟩; exact ⟨⟨c1, c2, h6.1 hr2, h7⟩, h8⟩
            · rintro ⟨⟨_, _, _, h7⟩, h8⟩; exact ⟨h7, h8⟩
theorem valid27_ex (n : Int) (g : List Hd) (hs : ∀ h ∈ g, h.f1.length ≤ 4096) : ∃ k r, antiquaryref27_Valid.f k n g = some r ∧ (r = true ↔ ValidG n g) := by
  unfold ValidG
  by_cases c1 : n < 1
  · refine ⟨1, false, ?_, ⟨fun h => by (cases h), fun h => by omega⟩⟩
    unfold antiquaryref27_Valid.f; rw [if_pos c1]; rfl
  · by_cases c2 : n > 4096
    · refine ⟨1, false, ?_, ⟨fun h => by (cases h), fun h => by omega⟩⟩
      unfold antiquaryref27_Valid.f; rw [if_neg c1, if_pos c2]; rfl
    · by_cases c3 : (g.length : Int) = n
      · obtain ⟨k, r, h1, h2⟩ := v27_l0 g hs (by omega) n c3 g.length 0 (by omega)
        refine ⟨k + 1, r, ?_, ?_⟩
        · unfold antiquaryref27_Valid.f
          rw [if_neg c1, if_neg c2]
          have e : ((g.length : Int) != n) = false := by simp [c3]
          rw [e]
          show (if false = true then some false else antiquaryref27_Valid.l0 k n 0 g) = some r
          rw [if_neg (by simp)]
          exact h1
        · rw [h2]
          exact ⟨fun h => ⟨by omega, by omega, c3, fun j hj => h j (Nat.zero_le _) hj⟩, fun h j _ hj => h.2.2.2 j hj⟩
      · refine ⟨1, false, ?_, ⟨fun h => by (cases h), fun h => absurd h.2.2.1 c3⟩⟩
        unfold antiquaryref27_Valid.f; rw [if_neg c1, if_neg c2]
        have e : ((g.length : Int) != n) = true := by simp [c3]
        rw [e]; rfl
end Go.Proofs.YthbkomkgciemiaaGreat.PKF
