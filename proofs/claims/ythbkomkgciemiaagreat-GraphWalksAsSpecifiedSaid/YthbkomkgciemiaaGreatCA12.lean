/- Texts of this claim, merged: part 12. -/
import Derived.Test.YthbkomkgciemiaaGreatCA8
import Derived.Test.YthbkomkgciemiaaGreatCA6
import Derived.Test.YthbkomkgciemiaaGreatCA3
import Derived.Test.YthbkomkgciemiaaGreatCA10
import Derived.Test.YthbkomkgciemiaaGreatCA11
import Derived.Test.YthbkomkgciemiaaGreatCA5
import Derived.Test.YthbkomkgciemiaaGreatCA9
import Derived.Test.YthbkomkgciemiaaGreatCA4
namespace Go.Proofs.YthbkomkgciemiaaGreat.PKF
open Go.Proofs.YthbkomkgciemiaaGreat.RF
open Go.RowKit Go.Proofs.YthbkomkgciemiaaGreatW.PrintWords Go.Proofs.YthbkomkgciemiaaGreatW.PrintLast Go.Proofs.YthbkomkgciemiaaGreatW.PrintMore
attribute [local go_sem] max2_int min2_int max_two min_two max_three min_three max_four min_four
set_option linter.unusedVariables false
set_option linter.unusedSimpArgs false
open Go.RowKit
instance okAtDec (n : Int) (xs : List Int) (q : Nat) : Decidable (okAt n xs q) := by unfold okAt; infer_instance
instance hoodOkDec (n : Int) (j : Nat) (h : Hd) : Decidable (hoodOk n j h) := by unfold hoodOk; infer_instance
instance validGDec (n : Int) (g : List Hd) : Decidable (ValidG n g) := by unfold ValidG; infer_instance
def Asked (m : Int) (l : List (List Int)) (g : List Hd) (v : List Int) (from_ : Int) : Prop := rightF m l = true ∧ ValidG l.length g ∧ alikeF (rdL l 0) v = true ∧ 0 ≤ from_ ∧ from_ < (l.length : Int)
instance askedDec (m : Int) (l : List (List Int)) (g : List Hd) (v : List Int) (from_ : Int) : Decidable (Asked m l g v from_) := by unfold Asked; infer_instance
theorem valid_no {n : Int} {g : List Hd} (hs : shortG g) (h : ¬ ValidG n g) : ValidAt n g false := by
 obtain ⟨k, r, h1, h2⟩ := valid_ex n g hs
 cases r with
 | false => exact ⟨k, h1⟩
 | true => exact absurd (h2.1 rfl) h
theorem begOk_of {m : Int} {l : List (List Int)} {g : List Hd} {v : List Int} {from_ : Int} (hs : shortG g) (h : Asked m l g v from_) : BegOk m l g v from_ := by
 obtain ⟨h1, h2, h3, h4, h5⟩ := h
 obtain ⟨_, ⟨hl1, hl2⟩, _⟩ := rightF_iff.1 h1
 exact ⟨h1, valid_at hs h2, good_of_valid h2, hl1, hl2, h3, h4, h5⟩
set_option maxHeartbeats 400000 in
theorem beginNoC (m : Int) (A1 : Option Addr) (c1 : Nat) (l : List (List Int)) (A2 : Option Addr) (c2 : Nat) (g : List Hd) (A3 : Option Addr) (c3 : Nat) (v : List Int) (from_ : Int) (w : World) (hr1 : Kd.C (Kd.slice 3 (Kd.int .i64)) w A1 l.length l) (hc1 : l.length ≤ c1) (hr2 : Kd.C k61 w A2 g.length g) (hc2 : g.length ≤ c2) (hr3 : Kd.C (Kd.int .i64) w A3 v.length v) (hc3 : v.length ≤ c3) (hs : shortG g) (h : ¬ Asked m l g v from_) :
  Calls Tryz.prog 30 #[.int .i64 m, .slice A1 l.length c1, .agg #[.slice A2 g.length c2], .slice A3 v.length c3, .int .i64 from_] w fun e w' => e = .returned (.tuple #[searchV m A1 l.length c1 A2 g.length c2 none 0 0, .bool false]) ∧ Below w.heap.size w w' := by
 cases h1 : rightF m l with
 | false => exact beginNo1 m A1 c1 l A2 c2 g A3 c3 v from_ w hr1 hc1 hr2 hc2 hr3 hc3 h1
 | true =>
  obtain ⟨_, ⟨hl1, hl2⟩, _⟩ := rightF_iff.1 h1
  by_cases h2 : ValidG l.length g
  ·cases h3 : alikeF (rdL l 0) v with
   | false => exact beginNo3 m A1 c1 l A2 c2 g A3 c3 v from_ w hr1 hc1 hr2 hc2 hr3 hc3 h1 (valid_at hs h2) hl1 h3
   | true =>
    by_cases h4 : from_ < 0
    ·exact beginNo4 m A1 c1 l A2 c2 g A3 c3 v from_ w hr1 hc1 hr2 hc2 hr3 hc3 h1 (valid_at hs h2) hl1 h3 h4
    ·by_cases h5 : (l.length : Int) ≤ from_
     ·exact beginNo5 m A1 c1 l A2 c2 g A3 c3 v from_ w hr1 hc1 hr2 hc2 hr3 hc3 h1 (valid_at hs h2) hl1 h3 h5
     ·exact absurd ⟨h1, h2, h3, by omega, by omega⟩ h
  ·exact beginNo2 m A1 c1 l A2 c2 g A3 c3 v from_ w hr1 hc1 hr2 hc2 hr3 hc3 h1 (valid_no hs h2)
theorem wres_run' {fn : Func} {p1 p2 p3 p4 : Tmp} (h : fn.results = #[.cell p1 26, .cell p2 3, .cell p3 4, .cell p4 30]) (tmps : Array Value) (s0 : Nat) (W : World) (v : Value) (a : Int) (b : Bool) (x : Int)
  (hr : W.heap[s0 + 1 + 1 + 1]? = some (.cells #[v] 26 (0, 0)) ∧ W.heap[s0 + 1 + 1 + 1 + 1]? = some (.cells #[.int .i64 a] 3 (0, 0)) ∧ W.heap[s0 + 1 + 1 + 1 + 1 + 1]? = some (.cells #[.bool b] 4 (0, 0)) ∧ W.heap[s0 + 1 + 1 + 1 + 1 + 1 + 1]? = some (.cells #[.int .i64 x] 30 (0, 0)))
  (h1 : tmps.getD p1 undef = .pointer (some ⟨s0 + 1 + 1 + 1, 0, none⟩)) (h2 : tmps.getD p2 undef = .pointer (some ⟨s0 + 1 + 1 + 1 + 1, 0, none⟩)) (h3 : tmps.getD p3 undef = .pointer (some ⟨s0 + 1 + 1 + 1 + 1 + 1, 0, none⟩)) (h4 : tmps.getD p4 undef = .pointer (some ⟨s0 + 1 + 1 + 1 + 1 + 1 + 1, 0, none⟩)) :
  (results fn tmps).run Tryz.prog W = .ok (.tuple #[v, .int .i64 a, .bool b, .int .i64 x]) W :=
 results_cccc h tmps W _ _ _ _ _ _ _ _ h1 h2 h3 h4 (load_si _ _ _ (cell_of_blk hr.1)) (load_i _ _ _ (cell_of_blk hr.2.1)) (load_b _ _ _ (cell_of_blk hr.2.2.1)) (load_e _ _ _ (cell_of_blk hr.2.2.2))
theorem refused_end (m : Int) (A1 : Option Addr) (n1 c1 : Nat) (A2 : Option Addr) (n2 c2 : Nat) (A4 : Option Addr) (n4 c4 s0 : Nat) (w1 : World) (hX : w1.heap[s0 + 1 + 1 + 1]? = some (.cells #[.slice none 0 0] 26 (0, 0)) ∧ w1.heap[s0 + 1 + 1 + 1 + 1]? = some (.cells #[.int .i64 0] 3 (0, 0)) ∧ w1.heap[s0 + 1 + 1 + 1 + 1 + 1]? = some (.cells #[.bool false] 4 (0, 0)) ∧ w1.heap[s0 + 1 + 1 + 1 + 1 + 1 + 1]? = some (.cells #[.int .i64 0] 30 (0, 0))) (hsz : s0 + 1 + 1 + 1 + 1 + 1 + 1 + 1 ≤ w1.heap.size) :
  let W := (((((w1.alloc (.cells #[.int .i64 m, .slice A1 n1 c1, .slice A2 n2 c2, .slice A4 n4 c4] 65)).setCell ⟨s0 + 1 + 1 + 1, 0, none⟩ (.slice none 0 0)).setCell ⟨s0 + 1 + 1 + 1 + 1, 0, none⟩ (.int .i64 0)).setCell ⟨s0 + 1 + 1 + 1 + 1 + 1, 0, none⟩ (.bool false)).setCell ⟨s0 + 1 + 1 + 1 + 1 + 1 + 1, 0, none⟩ (.int .i64 1))
  (W.heap[s0 + 1 + 1 + 1]? = some (.cells #[.slice none 0 0] 26 (0, 0)) ∧ W.heap[s0 + 1 + 1 + 1 + 1]? = some (.cells #[.int .i64 0] 3 (0, 0)) ∧ W.heap[s0 + 1 + 1 + 1 + 1 + 1]? = some (.cells #[.bool false] 4 (0, 0)) ∧ W.heap[s0 + 1 + 1 + 1 + 1 + 1 + 1]? = some (.cells #[.int .i64 1] 30 (0, 0))) ∧ Below s0 w1 W := by
 intro W
 obtain ⟨V3, V4, V5, V6⟩ := hX
 refine ⟨⟨?_, ?_, ?_, ?_⟩, ?_⟩
 ·rw [Below.heap_setCell _ _ _ _ (by simp <;> omega), Below.heap_setCell _ _ _ _ (by simp <;> omega), Below.heap_setCell _ _ _ _ (by simp <;> omega)]
  exact blk_put (blk_alloc V3 _) 0 _ rfl
 ·rw [Below.heap_setCell _ _ _ _ (by simp <;> omega), Below.heap_setCell _ _ _ _ (by simp <;> omega)]
  exact blk_put ((Below.heap_setCell _ _ _ _ (by simp <;> omega)).trans (blk_alloc V4 _)) 0 _ rfl
 ·rw [Below.heap_setCell _ _ _ _ (by simp <;> omega)]
  exact blk_put ((Below.heap_setCell _ _ _ _ (by simp <;> omega)).trans ((Below.heap_setCell _ _ _ _ (by simp <;> omega)).trans (blk_alloc V5 _))) 0 _ rfl
 ·exact blk_put ((Below.heap_setCell _ _ _ _ (by simp <;> omega)).trans ((Below.heap_setCell _ _ _ _ (by simp <;> omega)).trans ((Below.heap_setCell _ _ _ _ (by simp <;> omega)).trans (blk_alloc V6 _)))) 0 _ rfl
 ·exact ((((below_alloc (Below.refl w1.heap.size w1) _).mono (by omega)).setCell (p := ⟨s0 + 1 + 1 + 1, 0, none⟩) (by simp; omega) _).setCell (p := ⟨s0 + 1 + 1 + 1 + 1, 0, none⟩) (by simp; omega) _).setCell (p := ⟨s0 + 1 + 1 + 1 + 1 + 1, 0, none⟩) (by simp; omega) _ |>.setCell (p := ⟨s0 + 1 + 1 + 1 + 1 + 1 + 1, 0, none⟩) (by simp; omega) _
def Begins (ok : Bool) (m : Int) (A1 : Option Addr) (n1 c1 : Nat) (A2 : Option Addr) (n2 c2 : Nat) (args : Array Value) (w : World) : Prop := ∀ W, Below w.heap.size w W → Calls Tryz.prog 30 args W fun e w' => ∃ (A4 : Option Addr) (n4 c4 : Nat), e = .returned (.tuple #[.agg #[.int .i64 m, .slice A1 n1 c1, .slice A2 n2 c2, .slice A4 n4 c4], .bool ok]) ∧ Below W.heap.size W w'
set_option maxHeartbeats 1000000 in
set_option maxRecDepth 100000 in
theorem walkNoC (m : Int) (A1 : Option Addr) (n1 c1 : Nat) (A2 : Option Addr) (n2 c2 : Nat) (A3 : Option Addr) (n3 c3 : Nat) (from_ : Int) (w : World) (hno : Begins false m A1 n1 c1 A2 n2 c2 #[.int .i64 m, .slice A1 n1 c1, .agg #[.slice A2 n2 c2], .slice A3 n3 c3, .int .i64 from_] w) :
  Calls Tryz.prog 9 #[.int .i64 m, .slice A1 n1 c1, .agg #[.slice A2 n2 c2], .slice A3 n3 c3, .int .i64 from_] w fun e w' => e = .returned (.tuple #[.slice none 0 0, .int .i64 1]) ∧ Below w.heap.size w w' := by
 have hu := Tryz.underlying65
 have hu3 := Tryz.underlying25
 have HN := Aside0.mk hno
 clear hno
 go_enter Tryz.func9, Tryz.ntmps9
 go_wp2_with fail
 refine (HN.out _ (below_alloc (Below.refl _ w) _)).mono ?_
 rintro e w1 ⟨A4, n4, c4, rfl, hb⟩
 have HB := Aside0.mk (below_step (below_alloc (Below.refl _ w) _) hb)
 clear hb HN
 go_wp2
 go_ret2
 exact ⟨rfl, below_alloc HB.out _⟩
set_option maxHeartbeats 1000000 in
set_option maxRecDepth 100000 in
theorem withinNoC (ok : Bool) (m : Int) (A1 : Option Addr) (n1 c1 : Nat) (A2 : Option Addr) (n2 c2 : Nat) (A3 : Option Addr) (n3 c3 : Nat) (from_ t : Int) (w : World) (hno : Begins ok m A1 n1 c1 A2 n2 c2 #[.int .i64 m, .slice A1 n1 c1, .agg #[.slice A2 n2 c2], .slice A3 n3 c3, .int .i64 from_] w) (hc : ok = true → t < 0 ∨ 134217728 < t) :
  Calls Tryz.prog 10 #[.int .i64 m, .slice A1 n1 c1, .agg #[.slice A2 n2 c2], .slice A3 n3 c3, .int .i64 from_, .int .i64 t] w fun e w' => e = .returned (.tuple #[.slice none 0 0, .int .i64 0, .bool false, .int .i64 1]) ∧ Below w.heap.size w w' := by
 have hu := Tryz.underlying65
 have hu3 := Tryz.underlying25
 have HN := Aside0.mk (fun W hW => (callsIn_wide (n := 0)).2 (hno W hW))
 clear hno
 refine callsIn_wide (n := 0).1 ?_
 refine callsIn_of_wp_marks Tryz.func10 rfl trivial ?_ rfl
 simp only [Tryz.ntmps10, List.size_toArray, List.length_cons, List.length_nil, Nat.reduceAdd, Nat.reduceSub, Array.replicate_succ, Array.replicate_zero, List.push_toArray, List.append_toArray, List.nil_append, List.cons_append]
 gi_wp2
 refine ⟨trivial, rfl, (HN.out _ (below_alloc (below_alloc (below_alloc (below_alloc (below_alloc (below_alloc (below_alloc (Below.refl _ w) _) _) _) _) _) _) _)).mono ?_⟩
 rintro e w1 ⟨A4, n4, c4, rfl, hb⟩
 have HB := Aside0.mk (below_step (below_alloc (below_alloc (below_alloc (below_alloc (below_alloc (below_alloc (below_alloc (Below.refl _ w) _) _) _) _) _) _) _) hb)
 have X0 := blk_below (blk_alloc (blk_alloc (blk_alloc (blk_alloc (blk_alloc (blk_alloc (blk_new w (.cells #[.int .i64 m] 3)) _) _) _) _) _) _) hb
 have X1 := blk_below (blk_alloc (blk_alloc (blk_alloc (blk_alloc (blk_alloc (blk_new (w.alloc (.cells #[.int .i64 m] 3)) (.cells #[.slice A2 n2 c2] 25)) _) _) _) _) _) hb
 have X2 := blk_below (blk_alloc (blk_alloc (blk_alloc (blk_alloc (blk_new ((w.alloc (.cells #[.int .i64 m] 3)).alloc (.cells #[.slice A2 n2 c2] 25)) (.cells #[.int .i64 t] 3)) _) _) _) _) hb
 have X3 := blk_below (blk_alloc (blk_alloc (blk_alloc (blk_new (((w.alloc (.cells #[.int .i64 m] 3)).alloc (.cells #[.slice A2 n2 c2] 25)).alloc (.cells #[.int .i64 t] 3)) (.cells #[.slice none 0 0] 26)) _) _) _) hb
 have X4 := blk_below (blk_alloc (blk_alloc (blk_new ((((w.alloc (.cells #[.int .i64 m] 3)).alloc (.cells #[.slice A2 n2 c2] 25)).alloc (.cells #[.int .i64 t] 3)).alloc (.cells #[.slice none 0 0] 26)) (.cells #[.int .i64 0] 3)) _) _) hb
 have X5 := blk_below (blk_alloc (blk_new (((((w.alloc (.cells #[.int .i64 m] 3)).alloc (.cells #[.slice A2 n2 c2] 25)).alloc (.cells #[.int .i64 t] 3)).alloc (.cells #[.slice none 0 0] 26)).alloc (.cells #[.int .i64 0] 3)) (.cells #[.bool false] 4)) _) hb
 have X6 := blk_below (blk_new ((((((w.alloc (.cells #[.int .i64 m] 3)).alloc (.cells #[.slice A2 n2 c2] 25)).alloc (.cells #[.int .i64 t] 3)).alloc (.cells #[.slice none 0 0] 26)).alloc (.cells #[.int .i64 0] 3)).alloc (.cells #[.bool false] 4)) (.cells #[.int .i64 0] 30)) hb
 simp only [World.size_alloc] at X0 X1 X2 X3 X4 X5 X6
 have hsz := hb.size
 simp only [World.size_alloc] at hsz
 have d2 : ∀ o, (w1.alloc o).cell? ⟨w.heap.size + 1 + 1, 0, none⟩ = some (.int .i64 t) := fun o => cell_of_blk (blk_alloc X2 o)
 obtain ⟨W2, hW2⟩ : ∃ W2, W2 = w1.alloc (.cells #[.int .i64 m, .slice A1 n1 c1, .slice A2 n2 c2, .slice A4 n4 c4] 65) := ⟨_, rfl⟩
 have Y3 := cell_of_blk (blk_alloc X3 (.cells #[.int .i64 m, .slice A1 n1 c1, .slice A2 n2 c2, .slice A4 n4 c4] 65))
 have Y4 := cell_of_blk (blk_alloc X4 (.cells #[.int .i64 m, .slice A1 n1 c1, .slice A2 n2 c2, .slice A4 n4 c4] 65))
 have Y5 := cell_of_blk (blk_alloc X5 (.cells #[.int .i64 m, .slice A1 n1 c1, .slice A2 n2 c2, .slice A4 n4 c4] 65))
 have Y6 := cell_of_blk (blk_alloc X6 (.cells #[.int .i64 m, .slice A1 n1 c1, .slice A2 n2 c2, .slice A4 n4 c4] 65))
 have Z3 := frozen_of_blk (blk_alloc X3 (.cells #[.int .i64 m, .slice A1 n1 c1, .slice A2 n2 c2, .slice A4 n4 c4] 65))
 have Z4 := frozen_of_blk (blk_alloc X4 (.cells #[.int .i64 m, .slice A1 n1 c1, .slice A2 n2 c2, .slice A4 n4 c4] 65))
 have Z5 := frozen_of_blk (blk_alloc X5 (.cells #[.int .i64 m, .slice A1 n1 c1, .slice A2 n2 c2, .slice A4 n4 c4] 65))
 have Z6 := frozen_of_blk (blk_alloc X6 (.cells #[.int .i64 m, .slice A1 n1 c1, .slice A2 n2 c2, .slice A4 n4 c4] 65))
 have HX := Aside0.mk (And.intro X3 (And.intro X4 (And.intro X5 X6)))
 clear hb HN X0 X1 X2 X3 X4 X5 X6 hW2 W2
 have HE := Aside0.mk (refused_end m A1 n1 c1 A2 n2 c2 A4 n4 c4 w.heap.size w1 HX.out hsz)
 have hcc : ok = false ∨ (ok = true ∧ t < 0) ∨ (ok = true ∧ ¬ t < 0 ∧ 134217728 < t) := by
  cases ok with
  | false => exact .inl rfl
  | true => have := hc rfl; exact (Decidable.em (t < 0)).elim (fun h => .inr (.inl ⟨rfl, h⟩)) (fun h => .inr (.inr ⟨rfl, h, by omega⟩))
 clear hc
 rcases hcc with rfl | ⟨rfl, h1⟩ | ⟨rfl, h1, h2⟩
 all_goals
  gi_wp2
  exact ⟨_, wres_run' rfl _ w.heap.size _ (.slice none 0 0) 0 false 1 HE.out.1 rfl rfl rfl rfl, rfl, HB.out.trans (HE.out.2.mono (by omega))⟩
set_option maxHeartbeats 1000000 in
set_option maxRecDepth 100000 in
theorem nearestNoC (ok : Bool) (m : Int) (A1 : Option Addr) (n1 c1 : Nat) (A2 : Option Addr) (n2 c2 : Nat) (A3 : Option Addr) (n3 c3 : Nat) (from_ k : Int) (w : World) (hno : Begins ok m A1 n1 c1 A2 n2 c2 #[.int .i64 m, .slice A1 n1 c1, .agg #[.slice A2 n2 c2], .slice A3 n3 c3, .int .i64 from_] w) (hc : ok = true → k < 1 ∨ 64 < k) :
  Calls Tryz.prog 11 #[.int .i64 m, .slice A1 n1 c1, .agg #[.slice A2 n2 c2], .slice A3 n3 c3, .int .i64 from_, .int .i64 k] w fun e w' => e = .returned (.tuple #[.slice none 0 0, .int .i64 0, .bool false, .int .i64 1]) ∧ Below w.heap.size w w' := by
 have hu := Tryz.underlying65
 have hu3 := Tryz.underlying25
 have HN := Aside0.mk (fun W hW => (callsIn_wide (n := 0)).2 (hno W hW))
 clear hno
 refine callsIn_wide (n := 0).1 ?_
 refine callsIn_of_wp_marks Tryz.func11 rfl trivial ?_ rfl
 simp only [Tryz.ntmps11, List.size_toArray, List.length_cons, List.length_nil, Nat.reduceAdd, Nat.reduceSub, Array.replicate_succ, Array.replicate_zero, List.push_toArray, List.append_toArray, List.nil_append, List.cons_append]
 gi_wp2
 refine ⟨trivial, rfl, (HN.out _ (below_alloc (Below.refl _ w) _)).mono ?_⟩
 rintro e w1 ⟨A4, n4, c4, rfl, hb⟩
 have HB := Aside0.mk (below_alloc (below_step (below_alloc (Below.refl _ w) _) hb) (.cells #[.int .i64 m, .slice A1 n1 c1, .slice A2 n2 c2, .slice A4 n4 c4] 65))
 clear hb HN
 have hcc : ok = false ∨ (ok = true ∧ k < 1) ∨ (ok = true ∧ ¬ k < 1 ∧ 64 < k) := by
  cases ok with
  | false => exact .inl rfl
  | true => have := hc rfl; exact (Decidable.em (k < 1)).elim (fun h => .inr (.inl ⟨rfl, h⟩)) (fun h => .inr (.inr ⟨rfl, h, by omega⟩))
 clear hc
 rcases hcc with rfl | ⟨rfl, h1⟩ | ⟨rfl, h1, h2⟩
 all_goals
  gi_wp2
  exact ⟨_, results_tmp4 rfl _ _ _, rfl, HB.out⟩
theorem cmpI_neg {x y : Int} : cmpI x y < 0 ↔ x < y := by
 unfold cmpI
 by_cases h1 : x < y
 ·simp [h1]
 ·by_cases h2 : y < x <;> simp [h1, h2]
theorem cmpI_zero {x y : Int} : cmpI x y = 0 ↔ x = y := by
 unfold cmpI
 by_cases h1 : x < y
 ·simp [h1]; omega
 ·by_cases h2 : y < x <;> simp [h1, h2] <;> omega
theorem ltF_iff (ks : List Int) (a b : Int) : ltF (orderF ks) a b = true ↔ rd ks a < rd ks b ∨ rd ks a = rd ks b ∧ a < b := by
 unfold ltF orderF orI
 rw [decide_eq_true_eq]
 by_cases h : cmpI (rd ks a) (rd ks b) = 0
 ·rw [if_pos h, cmpI_neg]; rw [cmpI_zero] at h; omega
 ·rw [if_neg h, cmpI_neg]; rw [cmpI_zero] at h; omega
theorem ltF_no (ks : List Int) (a b : Int) : ltF (orderF ks) a b = false ↔ rd ks b < rd ks a ∨ rd ks a = rd ks b ∧ b ≤ a := by
 rw [← Bool.not_eq_true, ltF_iff]; omega
theorem order_swo (ks : List Int) : Go.Sort.SWO (ltF (orderF ks)) where
 irrefl x := by rw [ltF_no]; omega
 trans x y z h1 h2 := by rw [ltF_iff] at *; omega
 ntrans x y z h1 h2 := by rw [ltF_no] at *; omega
theorem order_tri (ks : List Int) (x y : Int) (h1 : ltF (orderF ks) x y = false) (h2 : ltF (orderF ks) y x = false) : x = y := by rw [ltF_no] at *; omega
theorem asc_nodup (n : Int) (xs : List Int) (h : ∀ q : Nat, q < xs.length → okAt n xs q) : xs.Pairwise (· < ·) := by
 have step : ∀ d i : Nat, i + d + 1 < xs.length → rd xs i < rd xs ((i + d + 1 : Nat) : Int) := by
  intro d
  induction d with
  | zero =>
   intro i hi
   have := (h (i + 1) hi).2.2 (by omega)
   rw [show (((i + 1 : Nat) : Int) - 1) = (i : Int) by omega] at this
   exact this
  | succ d ih =>
   intro i hi
   have h1 := ih i (by omega)
   have := (h (i + (d + 1) + 1) hi).2.2 (by omega)
   rw [show (((i + (d + 1) + 1 : Nat) : Int) - 1) = ((i + d + 1 : Nat) : Int) by omega] at this
   omega
 rw [List.pairwise_iff_getElem]
 intro i j hi hj hij
 have := step (j - i - 1) i (by omega)
 rw [show i + (j - i - 1) + 1 = j by omega] at this
 unfold rd at this
 simpa [List.getD_eq_getElem?_getD, hi, hj] using this
theorem sortOk_of {n : Nat} {g : List Hd} (h : ValidG n g) (hn : n ≤ 25) (ks : List Int) : ∀ x ∈ g, SortOk (orderF ks) x.f1 := by
 intro x hx
 obtain ⟨j, hj, rfl⟩ := List.mem_iff_getElem.1 hx
 have hk := h.2.2.2 j hj
 have e : rd_T61 g j = g[j] := by unfold rd_T61; simp [hj]
 rw [e] at hk
 refine ⟨?_, fun _ => ⟨order_swo ks, order_tri ks, ?_⟩⟩
 ·rcases asc_len n _ hk.2.2.2 with h1 | h1
  ·omega
  ·rw [h1]; simp
 ·exact (asc_nodup n _ hk.2.2.2).imp (fun h => by omega)
def hiOk (m : Int) (xs ys : List Int) : Bool := xs.all fun x => ys.all fun y => (metric_High.f m x y).isSome
theorem hiOk_at {m : Int} {xs ys : List Int} (h : hiOk m xs ys = true) {x y : Int} (hx : x ∈ xs) (hy : y ∈ ys) : ∃ r, metric_High.f m x y = some r := by
 unfold hiOk at h
 rw [List.all_eq_true] at h
 have := h x hx
 rw [List.all_eq_true] at this
 exact Option.isSome_iff_exists.1 (this y hy)
def shortB (g : List Hd) : Bool := g.all fun h => decide (h.f1.length ≤ 4096)
theorem shortB_of {g : List Hd} (h : shortB g = true) : shortG g := by
 intro x hx
 unfold shortB at h
 rw [List.all_eq_true] at h
 have := of_decide_eq_true (h x hx)
 omega
def graph_Walk.f (a0 : Int) (l1 : List (List Int)) (l2_0 : List Hd) (l3 : List Int) (a4 : Int) : Option (List Int × Int) :=
 if shortB l2_0 = true then some (if Asked a0 l1 l2_0 l3 a4 then (walkV (keysV a0 l1 l3) l2_0 a4, 0) else ([], 1)) else none
def graph_Within.f (a0 : Int) (l1 : List (List Int)) (l2_0 : List Hd) (l3 : List Int) (a4 : Int) (a5 : Int) : Option (List Int × Int × Bool × Int) :=
 if shortB l2_0 = true then
  if Asked a0 l1 l2_0 l3 a4 ∧ 0 ≤ a5 ∧ a5 ≤ 134217728 then
   if hiOk a0 (keysV a0 l1 l3) [a5] = true then some ((withinV a0 (keysV a0 l1 l3) l2_0 a4 a5).1, (withinV a0 (keysV a0 l1 l3) l2_0 a4 a5).2.1, (withinV a0 (keysV a0 l1 l3) l2_0 a4 a5).2.2, 0) else none
  else some ([], 0, false, 1)
 else none
def graph_Nearest.f (a0 : Int) (l1 : List (List Int)) (l2_0 : List Hd) (l3 : List Int) (a4 : Int) (a5 : Int) : Option (List Int × Int × Bool × Int) :=
 if shortB l2_0 = true then
  if Asked a0 l1 l2_0 l3 a4 ∧ 1 ≤ a5 ∧ a5 ≤ 64 then
   if hiOk a0 (keysV a0 l1 l3) (keysV a0 l1 l3) = true ∧ l1.length ≤ 25 then some ((nearestV a0 (keysV a0 l1 l3) l2_0 a4 a5 l1.length).1, (nearestV a0 (keysV a0 l1 l3) l2_0 a4 a5 l1.length).2.1, (nearestV a0 (keysV a0 l1 l3) l2_0 a4 a5 l1.length).2.2, 0) else none
  else some ([], 0, false, 1)
 else none
theorem beginsNo (m : Int) (A1 : Option Addr) (c1 : Nat) (l : List (List Int)) (A2 : Option Addr) (c2 : Nat) (g : List Hd) (A3 : Option Addr) (c3 : Nat) (v : List Int) (from_ : Int) (w : World) (hr1 : Kd.C (Kd.slice 3 (Kd.int .i64)) w A1 l.length l) (hc1 : l.length ≤ c1) (hr2 : Kd.C k61 w A2 g.length g) (hc2 : g.length ≤ c2) (hr3 : Kd.C (Kd.int .i64) w A3 v.length v) (hc3 : v.length ≤ c3) (hs : shortG g) (h : ¬ Asked m l g v from_) :
  Begins false m A1 l.length c1 A2 g.length c2 #[.int .i64 m, .slice A1 l.length c1, .agg #[.slice A2 g.length c2], .slice A3 v.length c3, .int .i64 from_] w :=
 fun W hW => (beginNoC m A1 c1 l A2 c2 g A3 c3 v from_ W (Kd.C_below hr1 hW) hc1 (Kd.C_below hr2 hW) hc2 (Kd.C_below hr3 hW) hc3 hs h).mono fun _ _ ⟨he, hb⟩ => ⟨none, 0, 0, he, hb⟩
theorem beginsYes (m : Int) (A1 : Option Addr) (c1 : Nat) (l : List (List Int)) (A2 : Option Addr) (c2 : Nat) (g : List Hd) (A3 : Option Addr) (c3 : Nat) (v : List Int) (from_ : Int) (w : World) (hr1 : Kd.C (Kd.slice 3 (Kd.int .i64)) w A1 l.length l) (hc1 : l.length ≤ c1) (hr2 : Kd.C k61 w A2 g.length g) (hc2 : g.length ≤ c2) (hr3 : Kd.C (Kd.int .i64) w A3 v.length v) (hc3 : v.length ≤ c3) (hs : shortG g) (h : Asked m l g v from_) :
  Begins true m A1 l.length c1 A2 g.length c2 #[.int .i64 m, .slice A1 l.length c1, .agg #[.slice A2 g.length c2], .slice A3 v.length c3, .int .i64 from_] w :=
 have hok := begOk_of hs h
 fun W hW => (beginYes m A1 c1 l A2 c2 g A3 c3 v from_ W (Kd.C_below hr1 hW) hc1 (Kd.C_below hr2 hW) hc2 (Kd.C_below hr3 hW) hc3 hok.right hok.valid hok.one hok.alike hok.h0 hok.h1).mono fun _ _ ⟨A4, c4, he, _, hb⟩ => ⟨A4, _, c4, he, hb⟩
theorem graph_Walk.calls (a0 : Int) (A1 : Option Addr) (c1 : Nat) (l1 : List (List Int)) (A2_0 : Option Addr) (c2_0 : Nat) (l2_0 : List Hd) (A3 : Option Addr) (c3 : Nat) (l3 : List Int) (a4 : Int) (r1 : List Int) (r2 : Int) (w : World) (hr1 : Kd.C (Kd.slice 3 (Kd.int .i64)) w A1 l1.length l1) (hc1 : l1.length ≤ c1) (hr2_0 : Kd.C k61 w A2_0 l2_0.length l2_0) (hc2_0 : l2_0.length ≤ c2_0) (hr3 : Kd.C (Kd.int .i64) w A3 l3.length l3) (hc3 : l3.length ≤ c3) (h : graph_Walk.f a0 l1 l2_0 l3 a4 = some (r1, r2)) :
  Calls Tryz.prog 9 #[.int .i64 a0, .slice A1 l1.length c1, .agg #[.slice A2_0 l2_0.length c2_0], .slice A3 l3.length c3, .int .i64 a4] w fun e w' => ∃ v0_ : Value, e = .returned (.tuple #[v0_, .int .i64 r2]) ∧ Kd.R (Kd.int .i64) 3 w' w.heap.size (fun _ => True) v0_ r1 ∧ Below w.heap.size w w' := by
 unfold graph_Walk.f at h
 split at h
 case isFalse => cases h
 rename_i hsb
 have hs := shortB_of hsb
 split at h
 ·rename_i hA
  obtain ⟨rfl, rfl⟩ := Prod.mk.inj (Option.some.inj h)
  exact walkOkC a0 A1 c1 l1 A2_0 c2_0 l2_0 A3 c3 l3 a4 w hr1 hc1 hr2_0 hc2_0 hr3 hc3 (begOk_of hs hA)
 ·rename_i hA
  obtain ⟨rfl, rfl⟩ := Prod.mk.inj (Option.some.inj h)
  exact (walkNoC a0 A1 _ c1 A2_0 _ c2_0 A3 _ c3 a4 w (beginsNo a0 A1 c1 l1 A2_0 c2_0 l2_0 A3 c3 l3 a4 w hr1 hc1 hr2_0 hc2_0 hr3 hc3 hs hA)).mono fun _ _ ⟨he, hb⟩ => ⟨_, he, Kd.R_nil _ _ _ _ _, hb⟩
theorem graph_Within.calls (a0 : Int) (A1 : Option Addr) (c1 : Nat) (l1 : List (List Int)) (A2_0 : Option Addr) (c2_0 : Nat) (l2_0 : List Hd) (A3 : Option Addr) (c3 : Nat) (l3 : List Int) (a4 : Int) (a5 : Int) (r1 : List Int) (r2 : Int) (r3 : Bool) (r4 : Int) (w : World) (hr1 : Kd.C (Kd.slice 3 (Kd.int .i64)) w A1 l1.length l1) (hc1 : l1.length ≤ c1) (hr2_0 : Kd.C k61 w A2_0 l2_0.length l2_0) (hc2_0 : l2_0.length ≤ c2_0) (hr3 : Kd.C (Kd.int .i64) w A3 l3.length l3) (hc3 : l3.length ≤ c3) (h : graph_Within.f a0 l1 l2_0 l3 a4 a5 = some (r1, r2, r3, r4)) :
  Calls Tryz.prog 10 #[.int .i64 a0, .slice A1 l1.length c1, .agg #[.slice A2_0 l2_0.length c2_0], .slice A3 l3.length c3, .int .i64 a4, .int .i64 a5] w fun e w' => ∃ v0_ : Value, e = .returned (.tuple #[v0_, .int .i64 r2, .bool r3, .int .i64 r4]) ∧ Kd.R (Kd.int .i64) 3 w' w.heap.size (fun _ => True) v0_ r1 ∧ Below w.heap.size w w' := by
 unfold graph_Within.f at h
 split at h
 case isFalse => cases h
 rename_i hsb
 have hs := shortB_of hsb
 split at h
 ·rename_i hA
  split at h
  case isFalse => cases h
  rename_i hh
  obtain ⟨hA, ht0, ht1⟩ := hA
  obtain ⟨rfl, h2⟩ := Prod.mk.inj (Option.some.inj h)
  obtain ⟨rfl, h3⟩ := Prod.mk.inj h2
  obtain ⟨rfl, rfl⟩ := Prod.mk.inj h3
  have hkl := keysV_length a0 l1 l3
  exact withinOkC a0 A1 c1 l1 A2_0 c2_0 l2_0 A3 c3 l3 a4 a5 w hr1 hc1 hr2_0 hc2_0 hr3 hc3 (begOk_of hs hA) ht0 ht1 (fun a h0 h1 => hiOk_at hh (rd_mem h0 (by omega)) (by simp))
 ·rename_i hA
  obtain ⟨rfl, h2⟩ := Prod.mk.inj (Option.some.inj h)
  obtain ⟨rfl, h3⟩ := Prod.mk.inj h2
  obtain ⟨rfl, rfl⟩ := Prod.mk.inj h3
  by_cases hB : Asked a0 l1 l2_0 l3 a4
  ·exact (withinNoC true a0 A1 _ c1 A2_0 _ c2_0 A3 _ c3 a4 a5 w (beginsYes a0 A1 c1 l1 A2_0 c2_0 l2_0 A3 c3 l3 a4 w hr1 hc1 hr2_0 hc2_0 hr3 hc3 hs hB) (fun _ => by
    by_cases h0 : a5 < 0
    ·exact .inl h0
    ·exact .inr (Decidable.byContradiction fun h1 => hA ⟨hB, by omega, by omega⟩))).mono fun _ _ ⟨he, hb⟩ => ⟨_, he, Kd.R_nil _ _ _ _ _, hb⟩
  ·exact (withinNoC false a0 A1 _ c1 A2_0 _ c2_0 A3 _ c3 a4 a5 w (beginsNo a0 A1 c1 l1 A2_0 c2_0 l2_0 A3 c3 l3 a4 w hr1 hc1 hr2_0 hc2_0 hr3 hc3 hs hB) (fun h => by cases h)).mono fun _ _ ⟨he, hb⟩ => ⟨_, he, Kd.R_nil _ _ _ _ _, hb⟩
theorem graph_Nearest.calls (a0 : Int) (A1 : Option Addr) (c1 : Nat) (l1 : List (List Int)) (A2_0 : Option Addr) (c2_0 : Nat) (l2_0 : List Hd) (A3 : Option Addr) (c3 : Nat) (l3 : List Int) (a4 : Int) (a5 : Int) (r1 : List Int) (r2 : Int) (r3 : Bool) (r4 : Int) (w : World) (hr1 : Kd.C (Kd.slice 3 (Kd.int .i64)) w A1 l1.length l1) (hc1 : l1.length ≤ c1) (hr2_0 : Kd.C k61 w A2_0 l2_0.length l2_0) (hc2_0 : l2_0.length ≤ c2_0) (hr3 : Kd.C (Kd.int .i64) w A3 l3.length l3) (hc3 : l3.length ≤ c3) (h : graph_Nearest.f a0 l1 l2_0 l3 a4 a5 = some (r1, r2, r3, r4)) :
  Calls Tryz.prog 11 #[.int .i64 a0, .slice A1 l1.length c1, .agg #[.slice A2_0 l2_0.length c2_0], .slice A3 l3.length c3, .int .i64 a4, .int .i64 a5] w fun e w' => ∃ v0_ : Value, e = .returned (.tuple #[v0_, .int .i64 r2, .bool r3, .int .i64 r4]) ∧ Kd.R (Kd.int .i64) 3 w' w.heap.size (fun _ => True) v0_ r1 ∧ Below w.heap.size w w' := by
 unfold graph_Nearest.f at h
 split at h
 case isFalse => cases h
 rename_i hsb
 have hs := shortB_of hsb
 split at h
 ·rename_i hA
  split at h
  case isFalse => cases h
  rename_i hh
  obtain ⟨hA, ht0, ht1⟩ := hA
  obtain ⟨rfl, h2⟩ := Prod.mk.inj (Option.some.inj h)
  obtain ⟨rfl, h3⟩ := Prod.mk.inj h2
  obtain ⟨rfl, rfl⟩ := Prod.mk.inj h3
  have hkl := keysV_length a0 l1 l3
  exact nearestOkC a0 A1 c1 l1 A2_0 c2_0 l2_0 A3 c3 l3 a4 a5 w hr1 hc1 hr2_0 hc2_0 hr3 hc3 (begOk_of hs hA) ht0 ht1 (sortOk_of hA.2.1 hh.2 _) (fun a b h0 h1 h2 h3 => hiOk_at hh.1 (rd_mem h0 (by omega)) (rd_mem h2 (by omega)))
 ·rename_i hA
  obtain ⟨rfl, h2⟩ := Prod.mk.inj (Option.some.inj h)
  obtain ⟨rfl, h3⟩ := Prod.mk.inj h2
  obtain ⟨rfl, rfl⟩ := Prod.mk.inj h3
  by_cases hB : Asked a0 l1 l2_0 l3 a4
  ·exact (nearestNoC true a0 A1 _ c1 A2_0 _ c2_0 A3 _ c3 a4 a5 w (beginsYes a0 A1 c1 l1 A2_0 c2_0 l2_0 A3 c3 l3 a4 w hr1 hc1 hr2_0 hc2_0 hr3 hc3 hs hB) (fun _ => by
    by_cases h0 : a5 < 1
    ·exact .inl h0
    ·exact .inr (Decidable.byContradiction fun h1 => hA ⟨hB, by omega, by omega⟩))).mono fun _ _ ⟨he, hb⟩ => ⟨_, he, Kd.R_nil _ _ _ _ _, hb⟩
  ·exact (nearestNoC false a0 A1 _ c1 A2_0 _ c2_0 A3 _ c3 a4 a5 w (beginsNo a0 A1 c1 l1 A2_0 c2_0 l2_0 A3 c3 l3 a4 w hr1 hc1 hr2_0 hc2_0 hr3 hc3 hs hB) (fun h => by cases h)).mono fun _ _ ⟨he, hb⟩ => ⟨_, he, Kd.R_nil _ _ _ _ _, hb⟩
def antiquaryref27_Few.l0 : Nat → Int → List (S61) → Option (Bool)
 | 0, _, _ => none
 | k + 1, x3, x237000 => if x3 < (x237000.length : Int) then (if 0 ≤ x3 then (if (((rd_T61 x237000 x3).f1).length : Int) > 40 then (some false) else (antiquaryref27_Few.l0 k (wrap64 (x3 + 1)) x237000)) else (none)) else (some true)
def antiquaryref27_Few.f (k : Nat) (l0_0 : List (S61)) : Option (Bool) := if (l0_0.length : Int) > 30 then (some false) else (antiquaryref27_Few.l0 k 0 l0_0)
set_option maxHeartbeats 8000000 in
set_option maxRecDepth 100000 in
theorem antiquaryref27_Few.calls (k : Nat) (A0_0 : Option Addr) (c0_0 : Nat) (l0_0 : List (S61)) (r : Bool) (w : World) (hr0_0 : Kd.C k61 w A0_0 l0_0.length l0_0) (hc0_0 : l0_0.length ≤ c0_0) (h : antiquaryref27_Few.f k l0_0 = some r) :
  Calls Tryz.prog 7 #[.agg #[.slice A0_0 l0_0.length c0_0]] w fun e w' => e = .returned (.bool r) ∧ Below w.heap.size w w' := by
 have hu25 := Tryz.underlying25
 have HR0_0 := Aside0.mk hr0_0
 have HC0_0 := Aside0.mk hc0_0
 clear hr0_0 hc0_0
 have HB := Aside0.mk (Below.refl w.heap.size w)
 have H : (if (l0_0.length : Int) > 30 then (some false) else (antiquaryref27_Few.l0 k 0 l0_0)) = some r := h
 clear h
 by_cases c2 : (l0_0.length : Int) > 30
 ·rw [if_pos c2] at H
  have c2b0 : decide (30 < (l0_0.length : Int)) = true := decide_eq_true c2
  have c2b1 : decide (30 < l0_0.length) = true := decide_eq_true (by omega)
  clear c2
  obtain rfl := Option.some.inj H
  go_enter Tryz.func7, Tryz.ntmps7
  go_wp2_with (first | ((with_reducible refine gate_dst (N := 1) rfl ?_); refine box_event ?hg (N := 1) ?hd (cs := #[.slice A0_0 l0_0.length c0_0]) (t := 25) ?hr ?_; (case hd => rfl); (case hg => rfl); (case hr => first | (go_simp; done) | (go_simp; rfl)); intro gb236 hg w3 hbox hb; have n0_ := Aside0.mk (below_step (by repeat (first | (with_reducible first | exact HB.out | apply below_alloc | apply pw_below_drewN | apply below_drew1) | exact HB.out)) hb); have n1_ := Aside0.mk (hbox); have n2_ := Aside0.mk ((by rw [hg]; exact (below_size (by repeat (first | (with_reducible first | exact HB.out | apply below_alloc | apply pw_below_drewN | apply below_drew1) | exact HB.out))) : w.heap.size ≤ gb236)); have n3_ := Aside0.mk ((by rw [hg]; exact (below_size (by repeat (first | (with_reducible first | exact HB.out | apply below_alloc | apply pw_below_drewN | apply below_drew1) | exact HB.out))) : w.heap.size ≤ gb236)); clear HB; have HB := n0_; have BK236 := n1_; have GW236 := n2_; have GE236 := n3_; clear n0_ n1_ n2_ n3_; clear hb hbox hg; have hcz4_0 : w3.cell? ⟨gb236, 0, none⟩ = some (.slice A0_0 l0_0.length c0_0) := (blk_cell BK236.out 0).trans rfl; have hfz4_0 := blk_frozen BK236.out 0))
  go_ret
  exact ⟨by first | rfl | (simp [errW_none, errW_some] <;> rfl) | (simp [*, errW_none, errW_some] <;> rfl), by repeat (first | (with_reducible first | exact HB.out | apply below_alloc | apply pw_below_drewN | apply below_drew1 | refine below_set ?_ GE236.out) | exact HB.out)⟩
 ·rw [if_neg c2] at H
  have c2b0 : decide (30 < (l0_0.length : Int)) = false := decide_eq_false c2
  have c2b1 : decide (30 < l0_0.length) = false := decide_eq_false (by omega)
  clear c2
  have H' := Aside0.mk H
  clear H
  go_enter Tryz.func7, Tryz.ntmps7
  go_wp2_with (first | ((with_reducible refine gate_dst (N := 1) rfl ?_); refine box_event ?hg (N := 1) ?hd (cs := #[.slice A0_0 l0_0.length c0_0]) (t := 25) ?hr ?_; (case hd => rfl); (case hg => rfl); (case hr => first | (go_simp; done) | (go_simp; rfl)); intro gb236 hg w5 hbox hb; have n0_ := Aside0.mk (below_step (by repeat (first | (with_reducible first | exact HB.out | apply below_alloc | apply pw_below_drewN | apply below_drew1) | exact HB.out)) hb); have n1_ := Aside0.mk (hbox); have n2_ := Aside0.mk ((by rw [hg]; exact (below_size (by repeat (first | (with_reducible first | exact HB.out | apply below_alloc | apply pw_below_drewN | apply below_drew1) | exact HB.out))) : w.heap.size ≤ gb236)); have n3_ := Aside0.mk ((by rw [hg]; exact (below_size (by repeat (first | (with_reducible first | exact HB.out | apply below_alloc | apply pw_below_drewN | apply below_drew1) | exact HB.out))) : w.heap.size ≤ gb236)); clear HB; have HB := n0_; have BK236 := n1_; have GW236 := n2_; have GE236 := n3_; clear n0_ n1_ n2_ n3_; clear hb hbox hg; have hcz6_0 : w5.cell? ⟨gb236, 0, none⟩ = some (.slice A0_0 l0_0.length c0_0) := (blk_cell BK236.out 0).trans rfl; have hfz6_0 := blk_frozen BK236.out 0))
  go_loopg [3] k (fun kq v3 w' => ∃ (x3_1 : Int), v3 = .int .i64 x3_1 ∧ Aside0 (antiquaryref27_Few.l0 kq x3_1 l0_0 = some r) ∧ Aside0 (kq ≤ k) ∧ Aside0 (w'.heap[gb236]? = some (.cells #[(.slice A0_0 l0_0.length c0_0)] 25 (0, 0))) ∧ Aside0 (Below w.heap.size w w'))
  case atStart => exact ⟨(0), (by first | rfl | (simp; done) | (simp [*]; done)), H', ⟨Nat.le_refl _⟩, ⟨by (with_reducible repeat (first | refine blk_drewN ?_ _ | refine blk_drew ?_ | refine blk_alloc ?_ _)); exact BK236.out⟩, ⟨by repeat (first | (with_reducible first | exact HB.out | apply below_alloc | apply pw_below_drewN | apply below_drew1 | refine below_set ?_ GE236.out) | exact HB.out)⟩⟩
  case round =>
   clear H'
   try clear c2
   try clear c2b0
   try clear c2b1
   try clear p2
   try clear hcz4_0
   try clear hcz6_0
   try clear hfz4_0
   try clear hfz6_0
   obtain ⟨x3_1, rfl, HA, HK1, BK236, HB⟩ := hrel
   cases gk with
   | zero => exact absurd HA.out (by simp [antiquaryref27_Few.l0])
   | succ k1 =>
    have H := HA.out
    clear HA
    simp only [antiquaryref27_Few.l0] at H
    by_cases c7 : x3_1 < (l0_0.length : Int)
    ·rw [if_pos c7] at H
     have c7b0 : decide (x3_1 < (l0_0.length : Int)) = true := decide_eq_true c7
     clear c7
     by_cases c8 : 0 ≤ x3_1
     ·rw [if_pos c8] at H
      have c8b0 : decide (0 ≤ x3_1) = true := decide_eq_true c8
      clear c8
      by_cases c9 : (((rd_T61 l0_0 x3_1).f1).length : Int) > 40
      ·rw [if_pos c9] at H
       have c9b0 : decide (40 < (((rd_T61 l0_0 x3_1).f1).length : Int)) = true := decide_eq_true c9
       have c9b1 : decide (40 < ((rd_T61 l0_0 x3_1).f1).length) = true := decide_eq_true (by omega)
       clear c9
       obtain rfl := Option.some.inj H
       have hcz10_0 : wr.cell? ⟨gb236, 0, none⟩ = some (.slice A0_0 l0_0.length c0_0) := (blk_cell BK236.out 0).trans rfl
       have hfz10_0 := blk_frozen BK236.out 0
       have p237 : 0 ≤ (x3_1 : Int) := of_decide_eq_true (by first | (with_reducible assumption) | assumption)
       have q237 : x3_1 < (l0_0.length : Int) := of_decide_eq_true (by first | (with_reducible assumption) | assumption)
       obtain ⟨ad237, A237_1, c237_1, e237, hx237_0, hx237_1, hl237_1, hi237_1⟩ := at_T61 HR0_0.out x3_1 p237 q237
       cases e237
       replace hx237_0 := (HB.out.cell (World.block_lt_of_cell? w _ hx237_0)).trans hx237_0
       replace hx237_1 := (HB.out.cell (World.block_lt_of_cell? w _ hx237_1)).trans hx237_1
       have HR237_1 := Aside0.mk hi237_1
       have HC237_1 := Aside0.mk hl237_1
       clear hi237_1 hl237_1
       replace p237 := eq_true p237
       replace q237 := eq_true q237
       go_wp2
       go_ret
       exact ⟨by first | rfl | (simp [errW_none, errW_some] <;> rfl) | (simp [*, errW_none, errW_some] <;> rfl), by repeat (first | (with_reducible first | exact HB.out | apply below_alloc | apply pw_below_drewN | apply below_drew1 | refine below_set ?_ GE236.out) | exact HB.out)⟩
      ·rw [if_neg c9] at H
       have c9b0 : decide (40 < (((rd_T61 l0_0 x3_1).f1).length : Int)) = false := decide_eq_false c9
       have c9b1 : decide (40 < ((rd_T61 l0_0 x3_1).f1).length) = false := decide_eq_false (by omega)
       clear c9
       have H' := Aside0.mk H
       clear H
       have hcz11_0 : wr.cell? ⟨gb236, 0, none⟩ = some (.slice A0_0 l0_0.length c0_0) := (blk_cell BK236.out 0).trans rfl
       have hfz11_0 := blk_frozen BK236.out 0
       have p237 : 0 ≤ (x3_1 : Int) := of_decide_eq_true (by first | (with_reducible assumption) | assumption)
       have q237 : x3_1 < (l0_0.length : Int) := of_decide_eq_true (by first | (with_reducible assumption) | assumption)
       obtain ⟨ad237, A237_1, c237_1, e237, hx237_0, hx237_1, hl237_1, hi237_1⟩ := at_T61 HR0_0.out x3_1 p237 q237
       cases e237
       replace hx237_0 := (HB.out.cell (World.block_lt_of_cell? w _ hx237_0)).trans hx237_0
       replace hx237_1 := (HB.out.cell (World.block_lt_of_cell? w _ hx237_1)).trans hx237_1
       have HR237_1 := Aside0.mk hi237_1
       have HC237_1 := Aside0.mk hl237_1
       clear hi237_1 hl237_1
       replace p237 := eq_true p237
       replace q237 := eq_true q237
       go_wp2
       go_roundg k1
       case measure => have := HK1.out; omega
       case rel => exact ⟨(wrap64 (x3_1 + 1)), (by first | rfl | (simp; done) | (simp [*]; done)), H', ⟨by have := HK1.out; omega⟩, ⟨by (with_reducible repeat (first | refine blk_drewN ?_ _ | refine blk_drew ?_ | refine blk_alloc ?_ _)); exact BK236.out⟩, ⟨by repeat (first | (with_reducible first | exact HB.out | apply below_alloc | apply pw_below_drewN | apply below_drew1 | refine below_set ?_ GE236.out) | exact HB.out)⟩⟩
     ·rw [if_neg c8] at H
      exact absurd H (by simp)
    ·rw [if_neg c7] at H
     have c7b0 : decide (x3_1 < (l0_0.length : Int)) = false := decide_eq_false c7
     clear c7
     obtain rfl := Option.some.inj H
     have hcz12_0 : wr.cell? ⟨gb236, 0, none⟩ = some (.slice A0_0 l0_0.length c0_0) := (blk_cell BK236.out 0).trans rfl
     have hfz12_0 := blk_frozen BK236.out 0
     go_wp2
     go_ret
     exact ⟨by first | rfl | (simp [errW_none, errW_some] <;> rfl) | (simp [*, errW_none, errW_some] <;> rfl), by repeat (first | (with_reducible first | exact HB.out | apply below_alloc | apply pw_below_drewN | apply below_drew1 | refine below_set ?_ GE236.out) | exact HB.out)⟩
def antiquaryref09_Few.l0 : Nat → List (List Int) → Int → Option (Bool)
 | 0, _, _ => none
 | k + 1, x0, x5 => if x5 < (x0.length : Int) then (if 0 ≤ x5 then (if ((rd_L1 x0 x5).length : Int) > 40 then (some false) else (antiquaryref09_Few.l0 k x0 (wrap64 (x5 + 1)))) else (none)) else (some true)
def antiquaryref09_Few.f (k : Nat) (l0 : List (List Int)) (a1 : Int) : Option (Bool) := if (l0.length : Int) > a1 then (some false) else (antiquaryref09_Few.l0 k l0 0)
set_option maxHeartbeats 8000000 in
set_option maxRecDepth 100000 in
theorem antiquaryref09_Few.calls (k : Nat) (A0 : Option Addr) (c0 : Nat) (l0 : List (List Int)) (a1 : Int) (r : Bool) (w : World) (hr0 : Kd.C (Kd.slice 3 (Kd.int .i64)) w A0 l0.length l0) (hc0 : l0.length ≤ c0) (h : antiquaryref09_Few.f k l0 a1 = some r) :
  Calls Tryz.prog 6 #[.slice A0 l0.length c0, .int .i64 a1] w fun e w' => e = .returned (.bool r) ∧ Drawn0 w w' := by
 have HR0 := Aside0.mk hr0
 have HC0 := Aside0.mk hc0
 clear hr0 hc0
 have H : (if (l0.length : Int) > a1 then (some false) else (antiquaryref09_Few.l0 k l0 0)) = some r := h
 clear h
 by_cases c3 : (l0.length : Int) > a1
 ·rw [if_pos c3] at H
  have c3b0 : decide (a1 < (l0.length : Int)) = true := decide_eq_true c3
  clear c3
  obtain rfl := Option.some.inj H
  go_enter Tryz.func6, Tryz.ntmps6
  go_wp2
  go_ret
  exact ⟨by first | rfl | (simp; done) | (simp [*]; done), by repeat (first | exact Drawn0.refl _ | apply Drawn0.step)⟩
 ·rw [if_neg c3] at H
  have c3b0 : decide (a1 < (l0.length : Int)) = false := decide_eq_false c3
  clear c3
  have H' := Aside0.mk H
  clear H
  go_enter Tryz.func6, Tryz.ntmps6
  go_wp2
  go_loopg [5] k (fun kq v5 w' => ∃ (x5_1 : Int), v5 = .int .i64 x5_1 ∧ Aside0 (antiquaryref09_Few.l0 kq l0 x5_1 = some r) ∧ Aside0 (kq ≤ k) ∧ Drawn0 w w')
  case atStart => exact ⟨(0), (by first | rfl | (simp; done) | (simp [*]; done)), H', ⟨Nat.le_refl _⟩, by repeat (first | exact Drawn0.refl _ | apply Drawn0.step)⟩
  case round =>
   clear H'
   try clear p2
   try clear c3
   try clear c3b0
   obtain ⟨x5_1, rfl, HA, HK1, ⟨m1, rfl⟩⟩ := hrel
   cases gk with
   | zero => exact absurd HA.out (by simp [antiquaryref09_Few.l0])
   | succ k1 =>
    have H := HA.out
    clear HA
    simp only [antiquaryref09_Few.l0] at H
    by_cases c4 : x5_1 < (l0.length : Int)
    ·rw [if_pos c4] at H
     have c4b0 : decide (x5_1 < (l0.length : Int)) = true := decide_eq_true c4
     clear c4
     by_cases c5 : 0 ≤ x5_1
     ·rw [if_pos c5] at H
      have c5b0 : decide (0 ≤ x5_1) = true := decide_eq_true c5
      clear c5
      by_cases c6 : ((rd_L1 l0 x5_1).length : Int) > 40
      ·rw [if_pos c6] at H
       have c6b0 : decide (40 < ((rd_L1 l0 x5_1).length : Int)) = true := decide_eq_true c6
       have c6b1 : decide (40 < (rd_L1 l0 x5_1).length) = true := decide_eq_true (by omega)
       clear c6
       obtain rfl := Option.some.inj H
       have p238 : 0 ≤ (x5_1 : Int) := of_decide_eq_true (by first | (with_reducible assumption) | assumption)
       have q238 : x5_1 < (l0.length : Int) := of_decide_eq_true (by first | (with_reducible assumption) | assumption)
       obtain ⟨ad238, A238_0, c238_0, e238, hx238_0, hl238_0, hi238_0⟩ := at_L1 HR0.out x5_1 p238 q238
       cases e238
       have HR238_0 := Aside0.mk hi238_0
       have HC238_0 := Aside0.mk hl238_0
       clear hi238_0 hl238_0
       replace p238 := eq_true p238
       replace q238 := eq_true q238
       go_wp2
       go_ret
       exact ⟨by first | rfl | (simp; done) | (simp [*]; done), by repeat (first | exact Drawn0.refl _ | apply Drawn0.step)⟩
      ·rw [if_neg c6] at H
       have c6b0 : decide (40 < ((rd_L1 l0 x5_1).length : Int)) = false := decide_eq_false c6
       have c6b1 : decide (40 < (rd_L1 l0 x5_1).length) = false := decide_eq_false (by omega)
       clear c6
       have H' := Aside0.mk H
       clear H
       have p238 : 0 ≤ (x5_1 : Int) := of_decide_eq_true (by first | (with_reducible assumption) | assumption)
       have q238 : x5_1 < (l0.length : Int) := of_decide_eq_true (by first | (with_reducible assumption) | assumption)
       obtain ⟨ad238, A238_0, c238_0, e238, hx238_0, hl238_0, hi238_0⟩ := at_L1 HR0.out x5_1 p238 q238
       cases e238
       have HR238_0 := Aside0.mk hi238_0
       have HC238_0 := Aside0.mk hl238_0
       clear hi238_0 hl238_0
       replace p238 := eq_true p238
       replace q238 := eq_true q238
       go_wp2
       go_roundg k1
       case measure => have := HK1.out; omega
       case rel => exact ⟨(wrap64 (x5_1 + 1)), (by first | rfl | (simp; done) | (simp [*]; done)), H', ⟨by have := HK1.out; omega⟩, by repeat (first | exact Drawn0.refl _ | apply Drawn0.step)⟩
     ·rw [if_neg c5] at H
      exact absurd H (by simp)
    ·rw [if_neg c4] at H
     have c4b0 : decide (x5_1 < (l0.length : Int)) = false := decide_eq_false c4
     clear c4
     obtain rfl := Option.some.inj H
     go_wp2
     go_ret
     exact ⟨by first | rfl | (simp; done) | (simp [*]; done), by repeat (first | exact Drawn0.refl _ | apply Drawn0.step)⟩
def fewL (l : List (List Int)) : Prop := l.length ≤ 25 ∧ ∀ v ∈ l, v.length ≤ 40
def fewG (g : List Hd) : Prop := g.length ≤ 30 ∧ ∀ h ∈ g, h.f1.length ≤ 40
theorem few09_loop (l : List (List Int)) (hl : l.length ≤ 25) (d : Nat) : ∀ i : Nat, i + d = l.length → ∃ k r, antiquaryref09_Few.l0 k l i = some r ∧ (r = true → ∀ j : Nat, i ≤ j → j < l.length → (rdL l j).length ≤ 40) := by
 induction d with
 | zero =>
  intro i hi
  refine ⟨1, true, ?_, fun _ j h1 h2 => by omega⟩
  unfold antiquaryref09_Few.l0; rw [if_neg (by omega)]
 | succ d ih =>
  intro i hi
  obtain ⟨k, r, h1, h2⟩ := ih (i + 1) (by omega)
  by_cases c : ((rdL l i).length : Int) > 40
  ·refine ⟨1, false, ?_, fun h => by cases h⟩
   unfold antiquaryref09_Few.l0; rw [if_pos (by omega), if_pos (by omega)]; exact if_pos c
  ·refine ⟨k + 1, r, ?_, fun h j h3 h4 => ?_⟩
   ·unfold antiquaryref09_Few.l0; rw [if_pos (by omega), if_pos (by omega)]
    refine (if_neg c).trans ?_
    rw [w64 (by omega)]; exact h1
   ·rcases Nat.lt_or_ge i j with h5 | h5
    ·exact h2 h j h5 h4
    ·have : j = i := by omega
     subst this; omega
theorem rdL_get (l : List (List Int)) (j : Nat) (h : j < l.length) : rdL l j = l[j] := by simp [rdL, h]
theorem few09_ex (l : List (List Int)) : ∃ k r, antiquaryref09_Few.f k l 25 = some r ∧ (r = true → fewL l) := by
 by_cases c : (l.length : Int) > 25
 ·exact ⟨0, false, by unfold antiquaryref09_Few.f; rw [if_pos c], fun h => by cases h⟩
 ·obtain ⟨k, r, h1, h2⟩ := few09_loop l (by omega) l.length 0 (by omega)
  refine ⟨k, r, by unfold antiquaryref09_Few.f; rw [if_neg c]; exact h1, fun h => ⟨by omega, fun v hv => ?_⟩⟩
  obtain ⟨j, hj, rfl⟩ := List.mem_iff_getElem.1 hv
  have := h2 h j (Nat.zero_le _) hj
  rwa [rdL_get l j hj] at this
theorem few27_loop (g : List Hd) (hl : g.length ≤ 30) (d : Nat) : ∀ i : Nat, i + d = g.length → ∃ k r, antiquaryref27_Few.l0 k i g = some r ∧ (r = true → ∀ j : Nat, i ≤ j → j < g.length → (rd_T61 g j).f1.length ≤ 40) := by
 induction d with
 | zero =>
  intro i hi
  refine ⟨1, true, ?_, fun _ j h1 h2 => by omega⟩
  unfold antiquaryref27_Few.l0; rw [if_neg (by omega)]
 | succ d ih =>
  intro i hi
  obtain ⟨k, r, h1, h2⟩ := ih (i + 1) (by omega)
  by_cases c : ((rd_T61 g i).f1.length : Int) > 40
  ·refine ⟨1, false, ?_, fun h => by cases h⟩
   unfold antiquaryref27_Few.l0; rw [if_pos (by omega), if_pos (by omega), if_pos c]
  ·refine ⟨k + 1, r, ?_, fun h j h3 h4 => ?_⟩
   ·unfold antiquaryref27_Few.l0; rw [if_pos (by omega), if_pos (by omega), if_neg c, w64 (by omega)]; exact h1
   ·rcases Nat.lt_or_ge i j with h5 | h5
    ·exact h2 h j h5 h4
    ·have : j = i := by omega
     subst this; omega
theorem rdT_get (g : List Hd) (j : Nat) (h : j < g.length) : rd_T61 g j = g[j] := by unfold rd_T61; simp [h]
theorem few27_ex (g : List Hd) : ∃ k r, antiquaryref27_Few.f k g = some r ∧ (r = true → fewG g) := by
 by_cases c : (g.length : Int) > 30
 ·exact ⟨0, false, by unfold antiquaryref27_Few.f; rw [if_pos c], fun h => by cases h⟩
 ·obtain ⟨k, r, h1, h2⟩ := few27_loop g (by omega) g.length 0 (by omega)
  refine ⟨k, r, by unfold antiquaryref27_Few.f; rw [if_neg c]; exact h1, fun h => ⟨by omega, fun v hv => ?_⟩⟩
  obtain ⟨j, hj, rfl⟩ := List.mem_iff_getElem.1 hv
  have := h2 h j (Nat.zero_le _) hj
  rwa [rdT_get g j hj] at this
theorem metric09 (m : Int) : antiquaryref09_Metric.f m = some (decide (1 ≤ m ∧ m ≤ 3)) := by
 unfold antiquaryref09_Metric.f
 by_cases c : m ≥ 1
 ·rw [if_pos c]; congr 1; by_cases c2 : m ≤ 3 <;> simp [c2] <;> omega
 ·rw [if_neg c]; congr 1; symm; simp; omega
theorem valid04_loop (v : List Int) (hv : v.length ≤ 9223372036854775807) (d : Nat) : ∀ i : Nat, i + d = v.length → (∀ j : Nat, j < i → -1000 ≤ rd v j ∧ rd v j ≤ 1000) → ∃ k, antiquaryref04_Valid.l0 k v i = some (validV v) := by
 induction d with
 | zero =>
  intro i hi hb
  have hall : ∀ x ∈ v, -1000 ≤ x ∧ x ≤ 1000 := by
   intro x hx
   obtain ⟨j, hj, rfl⟩ := mem_iff_rd.1 hx
   exact hb j (by omega)
  refine ⟨1, ?_⟩
  unfold antiquaryref04_Valid.l0
  rw [if_neg (by omega)]
  by_cases c1 : (v.length : Int) ≥ 1
  ·rw [if_pos c1]; congr 1
   by_cases c2 : (v.length : Int) ≤ 32
   ·rw [decide_eq_true c2]; exact (validV_iff.2 ⟨hall, by omega, by omega⟩).symm
   ·rw [decide_eq_false c2]; symm
    cases hvv : validV v with
    | false => rfl
    | true => have := (validV_iff.1 hvv).2.2; omega
  ·rw [if_neg c1]; congr 1; symm
   cases hvv : validV v with
   | false => rfl
   | true => have := (validV_iff.1 hvv).2.1; omega
 | succ d ih =>
  intro i hi hb
  have hno : ¬ (-1000 ≤ rd v i ∧ rd v i ≤ 1000) → validV v = false := by
   intro hn
   cases hvv : validV v with
   | false => rfl
   | true => exact absurd ((validV_iff.1 hvv).1 _ (rd_mem (by omega) (by omega))) hn
  by_cases c1 : rd v i < -1000
  ·refine ⟨1, ?_⟩
   unfold antiquaryref04_Valid.l0
   rw [if_pos (by omega), if_pos (by omega), if_pos c1, hno (by omega)]
  ·by_cases c2 : rd v i > 1000
   ·refine ⟨1, ?_⟩
    unfold antiquaryref04_Valid.l0
    rw [if_pos (by omega), if_pos (by omega), if_neg c1, if_pos c2, hno (by omega)]
   ·obtain ⟨k, h⟩ := ih (i + 1) (by omega) (fun j hj => by
     rcases Nat.lt_or_ge j i with h5 | h5
     ·exact hb j h5
     ·have : j = i := by omega
      subst this; omega)
    refine ⟨k + 1, ?_⟩
    unfold antiquaryref04_Valid.l0
    rw [if_pos (by omega), if_pos (by omega), if_neg c1, if_neg c2, w64 (by omega)]; exact h
theorem valid04_ex (v : List Int) (hv : v.length ≤ 9223372036854775807) : ∃ k, antiquaryref04_Valid.f k v = some (validV v) := valid04_loop v hv v.length 0 (by omega) (fun j hj => by omega)
instance (l : List (List Int)) : Decidable (fewL l) := by unfold fewL; infer_instance
def antiquaryref27_Nearest.f (a0 : Int) (l1 : List (List Int)) (l2_0 : List Hd) (l3 : List Int) (a4 : Int) (a5 : Int) : Option (List Int × Int × Bool × Int) :=
 if shortB l2_0 = true ∧ fewL l1 ∧ l3.length ≤ 4096 then
  some (if Asked a0 l1 l2_0 l3 a4 ∧ 1 ≤ a5 ∧ a5 ≤ 64 then ((nearestV a0 (keysV a0 l1 l3) l2_0 a4 a5 l1.length).1, (nearestV a0 (keysV a0 l1 l3) l2_0 a4 a5 l1.length).2.1, (nearestV a0 (keysV a0 l1 l3) l2_0 a4 a5 l1.length).2.2, 0) else ([], 0, false, 1))
 else none
theorem root_ex (n : Nat) : ∃ s : Nat, s * s ≤ n ∧ n < (s + 1) * (s + 1) := by
 induction n with
 | zero => exact ⟨0, by omega, by omega⟩
 | succ n ih =>
  obtain ⟨s, h1, h2⟩ := ih
  by_cases h : (s + 1) * (s + 1) ≤ n + 1
  ·refine ⟨s + 1, h, ?_⟩
   have : (s + 1 + 1) * (s + 1 + 1) = (s + 1) * (s + 1) + 2 * (s + 1) + 1 := by
    rw [Nat.add_mul, Nat.mul_add]; omega
   omega
  ·exact ⟨s, by omega, by omega⟩
theorem root_up {s x : Int} (h0 : 0 ≤ s) (h : s < x) : (s + 1) * (s + 1) ≤ x * x := by
 have h1 : (s + 1) * (s + 1) ≤ (s + 1) * x := Int.mul_le_mul_of_nonneg_left (by omega) (by omega)
 have h2 : (s + 1) * x ≤ x * x := Int.mul_le_mul_of_nonneg_right (by omega) (by omega)
 omega
theorem newton (n s x : Int) (hs0 : 0 ≤ s) (h1 : s * s ≤ n) (h2 : n < (s + 1) * (s + 1)) (hx : s ≤ x) (hx1 : 1 ≤ x) :
  s ≤ (x + n / x) / 2 ∧ (s < x → (x + n / x) / 2 < x ∧ 2 * ((x + n / x) / 2 - s) ≤ x - s) ∧ (x = s → x ≤ (x + n / x) / 2) := by
 have hn : 0 ≤ n := by have := Int.mul_nonneg hs0 hs0; omega
 have q1 : n / x * x ≤ n := Int.ediv_mul_le n (by omega)
 have q2 : n < (n / x + 1) * x := Int.lt_ediv_add_one_mul_self n (by omega)
 generalize n / x = q at q1 q2 ⊢
 have hlow : 2 * s ≤ x + q := by
  apply Decidable.byContradiction
  intro h
  have e1 : (q + 1) * x ≤ (2 * s - x) * x := Int.mul_le_mul_of_nonneg_right (by omega) (by omega)
  have e2 : s * s - (2 * s - x) * x = (x - s) * (x - s) := by
   simp only [Int.sub_mul, Int.mul_sub, Int.mul_assoc]
   have := Int.mul_comm s x
   omega
  have e3 : 0 ≤ (x - s) * (x - s) := Int.mul_nonneg (by omega) (by omega)
  omega
 refine ⟨by omega, fun hlt => ?_, fun he => ?_⟩
 ·have hq : q ≤ s := by
   apply Decidable.byContradiction
   intro h
   have e1 : (s + 1) * (s + 1) ≤ (s + 1) * x := Int.mul_le_mul_of_nonneg_left (by omega) (by omega)
   have e2 : (s + 1) * x ≤ q * x := Int.mul_le_mul_of_nonneg_right (by omega) (by omega)
   omega
  omega
 ·subst he; omega
theorem isqrt_l0 (n s : Int) (hs0 : 0 ≤ s) (h1 : s * s ≤ n) (h2 : n < (s + 1) * (s + 1)) (hn0 : 1 ≤ n) (hn : n ≤ 72057594037927936) : ∀ (j k : Nat) (x : Int), s ≤ x → 1 ≤ x → x ≤ 1073741824 → x - s < 2 ^ j → j < k → metric_Isqrt.l0 k n x = some s := by
 have step : ∀ x : Int, 1 ≤ x → x ≤ 1073741824 → wrap64 (Int.tdiv (wrap64 (x + (wrap64 (Int.tdiv n x)))) 2) = (x + n / x) / 2 := by
  intro x hx1 hx2
  have hq0 : 0 ≤ n / x := Int.ediv_nonneg (by omega) (by omega)
  have hq1 : n / x ≤ n := Int.ediv_le_self _ (by omega)
  have e0 : Int.tdiv n x = n / x := Int.tdiv_eq_ediv_of_nonneg (by omega)
  rw [e0, w64 (i := n / x) (by omega), w64 (i := x + n / x) (by omega), Int.tdiv_eq_ediv_of_nonneg (by omega), w64 (by omega)]
 intro j
 induction j with
 | zero =>
  intro k x hx hx1 hx2 he hk
  obtain ⟨k, rfl⟩ : ∃ m, k = m + 1 := ⟨k - 1, by omega⟩
  have hxs : x = s := by simp at he; omega
  obtain ⟨_, _, h3⟩ := newton n s x hs0 h1 h2 hx hx1
  rw [metric_Isqrt.l0, step x hx1 hx2, if_neg (by omega), if_pos (h3 hxs), hxs]
 | succ j ih =>
  intro k x hx hx1 hx2 he hk
  obtain ⟨k, rfl⟩ : ∃ m, k = m + 1 := ⟨k - 1, by omega⟩
  obtain ⟨h3, h4, h5⟩ := newton n s x hs0 h1 h2 hx hx1
  by_cases hlt : s < x
  ·obtain ⟨h6, h7⟩ := h4 hlt
   rw [metric_Isqrt.l0, step x hx1 hx2, if_neg (by omega), if_neg (by omega)]
   have hs1 : 1 ≤ s := by
    apply Decidable.byContradiction
    intro h
    have e : s = 0 := by omega
    subst e
    simp at h2
    omega
   refine ih k _ h3 (by omega) (by omega) ?_ (by omega)
   rw [Int.pow_succ] at he
   omega
  ·have hxs : x = s := by omega
   rw [metric_Isqrt.l0, step x hx1 hx2, if_neg (by omega), if_pos (h5 hxs), hxs]
theorem bitLenAux_spec : ∀ (f x : Nat), x < 2 ^ f → x < 2 ^ Lib.bitLenAux f x ∧ ∀ j, x < 2 ^ j → Lib.bitLenAux f x ≤ j
 | 0, x, h => by simp [Lib.bitLenAux] at *; omega
 | f + 1, x, h => by
  unfold Lib.bitLenAux
  by_cases hx : x = 0
  ·subst hx; simp
  ·rw [if_neg hx]
   have h' : x / 2 < 2 ^ f := by rw [Nat.pow_succ] at h; omega
   obtain ⟨h1, h2⟩ := bitLenAux_spec f (x / 2) h'
   refine ⟨by rw [Nat.add_comm, Nat.pow_succ]; omega, fun j hj => ?_⟩
   cases j with
   | zero => simp at hj; omega
   | succ j =>
    have := h2 j (by rw [Nat.pow_succ] at hj; omega)
    omega
theorem shl_pow : ∀ k : Nat, k ≤ 30 → shl .i64 1 (k : Int) = 2 ^ k := by decide +kernel
theorem isqrt_f (n : Int) (h0 : 0 ≤ n) (h : n ≤ 72057594037927936) (K : Nat) (hK : 40 ≤ K) : ∃ s : Int, metric_Isqrt.f K n = some s ∧ 0 ≤ s ∧ s * s ≤ n ∧ n < (s + 1) * (s + 1) := by
 obtain ⟨s, h1, h2⟩ := root_ex n.toNat
 have e1 : (s : Int) * s ≤ n := by
  have h3 := Int.ofNat_le.2 h1
  rw [Int.natCast_mul, Int.toNat_of_nonneg h0] at h3
  exact h3
 have e2 : n < ((s : Int) + 1) * ((s : Int) + 1) := by
  have h3 := Int.ofNat_lt.2 h2
  rw [Int.natCast_mul, Int.toNat_of_nonneg h0, Int.natCast_add] at h3
  exact h3
 refine ⟨s, ?_, by omega, e1, e2⟩
 have hcl : metric_clamp_int.f n 0 1152921504606846976 = some n := by
  unfold metric_clamp_int.f mx mn
  simp <;> omega
 unfold metric_Isqrt.f
 rw [hcl, Option.bind_some]
 by_cases hz : n = 0
 ·subst hz
  rw [if_pos rfl]
  have : s = 0 := by
   apply Decidable.byContradiction
   intro hs
   have := Nat.mul_pos (show 0 < s by omega) (show 0 < s by omega)
   simp at h1
   omega
  rw [this]; rfl
 ·rw [if_neg hz, show IntKind.u64.wrap n = n from IntWalk.u64_in n (by omega)]
  unfold bits_Len.f
  rw [if_pos (by omega), Option.bind_some]
  obtain ⟨b1, b2⟩ := bitLenAux_spec 64 n.toNat (by omega)
  have b3 := b2 57 (by omega)
  have b3' : Lib.bitLen n.toNat ≤ 57 := b3
  have b1' : n.toNat < 2 ^ Lib.bitLen n.toNat := b1
  generalize Lib.bitLen n.toNat = b at b1' b3' ⊢
  obtain ⟨q, hq⟩ : ∃ q, q = (b + 1) / 2 := ⟨_, rfl⟩
  have hq29 : q ≤ 29 := by omega
  have hq30 : q ≤ 30 := by omega
  have e3 : wrap64 (Int.tdiv (wrap64 ((b : Int) + 1)) 2) = (q : Int) := by
   rw [w64 (i := (b : Int) + 1) (by omega), Int.tdiv_eq_ediv_of_nonneg (by omega), w64 (by omega)]; omega
  have e4 : (0 : Int) ≤ (q : Int) := Int.natCast_nonneg q
  rewrite [e3, if_pos e4, shl_pow q hq30]
  clear e3 e4
  have hpow : (2 : Nat) ^ q ≤ 2 ^ 29 := Nat.pow_le_pow_right (by omega) hq29
  have hp1 : 1 ≤ (2 : Nat) ^ q := Nat.one_le_two_pow
  have hbig : n.toNat < 2 ^ q * 2 ^ q := by
   rw [← Nat.pow_add]
   exact Nat.lt_of_lt_of_le b1' (Nat.pow_le_pow_right (by omega) (by omega))
  have hcast : ((2 : Int) ^ q) = ((2 ^ q : Nat) : Int) := by simp
  rewrite [hcast]
  generalize (2 : Nat) ^ q = X at hpow hp1 hbig ⊢
  have hsx : s ≤ X := by
   apply Decidable.byContradiction
   intro hc
   have : X * X ≤ s * s := Nat.mul_le_mul (by omega) (by omega)
   omega
  have hp : (2 : Int) ^ 30 = 1073741824 := by decide
  have hr := isqrt_l0 n s (by omega) e1 e2 (by omega) h 30 K X (by omega) (by omega) (by omega) (by rw [hp]; omega) (by omega)
  exact hr
theorem mul_key {a b : Int} (ha0 : 0 ≤ a) (ha1 : a ≤ 134217728) (hb0 : 0 ≤ b) (hb1 : b ≤ 134217728) : 0 ≤ 4 * a * b ∧ 4 * a * b ≤ 72057594037927936 := by
 have h1 : 0 ≤ a * b := Int.mul_nonneg ha0 hb0
 have h2 : a * b ≤ 134217728 * b := Int.mul_le_mul_of_nonneg_right ha1 hb0
 have h3 : 4 * a * b = 4 * (a * b) := Int.mul_assoc ..
 omega
theorem high_ex (m : Int) {a b : Int} (ha0 : 0 ≤ a) (ha1 : a ≤ 134217728) (hb0 : 0 ≤ b) (hb1 : b ≤ 134217728) :
  ∃ s : Int, 0 ≤ s ∧ s * s ≤ 4 * a * b ∧ 4 * a * b < (s + 1) * (s + 1) ∧ metric_High.f m a b = some (if m = 2 then mn (a + b + s) 134217728 else mn (a + b) 134217728) := by
 obtain ⟨h1, h2⟩ := mul_key ha0 ha1 hb0 hb1
 obtain ⟨s, h3, h4, h5, h6⟩ := isqrt_f (4 * a * b) h1 h2 100 (by omega)
 refine ⟨s, h4, h5, h6, ?_⟩
 have hs : s ≤ 1152921504606846976 := by
  apply Decidable.byContradiction
  intro hc
  have : s * 1 ≤ s * s := Int.mul_le_mul_of_nonneg_left (by omega) (by omega)
  omega
 unfold metric_High.f keyB
 rw [if_pos ⟨by simpa using ⟨ha0, ha1⟩, by simpa using ⟨hb0, hb1⟩⟩]
 by_cases hm : m = 2
 ·rw [if_pos hm, if_pos hm, h3, Option.bind_some, if_pos ⟨h4, hs⟩]
 ·rw [if_neg hm, if_neg hm]
theorem sq_uniq {s t n : Int} (hs0 : 0 ≤ s) (ht0 : 0 ≤ t) (h1 : s * s ≤ n) (h2 : n < (s + 1) * (s + 1)) (h3 : t * t ≤ n) (h4 : n < (t + 1) * (t + 1)) : s = t := by
 rcases Int.lt_trichotomy s t with h | h | h
 ·have := root_up hs0 h
  omega
 ·exact h
 ·have := root_up ht0 h
  omega
theorem refIsqrt_l0 (n : Int) : ∀ (j k : Nat) (x : Int), j ≤ 31 → 0 ≤ x → x + 2 ^ j ≤ 2147483648 → x * x ≤ n → n < (x + 2 ^ j) * (x + 2 ^ j) → j < k →
  ∃ s, antiquaryref05_Isqrt.l0 k n x ((j : Int) - 1) = some s ∧ 0 ≤ s ∧ s * s ≤ n ∧ n < (s + 1) * (s + 1) := by
 intro j
 induction j with
 | zero =>
  intro k x _ hx0 _ h1 h2 hk
  obtain ⟨k, rfl⟩ : ∃ q, k = q + 1 := ⟨k - 1, by omega⟩
  refine ⟨x, ?_, hx0, h1, h2⟩
  rw [antiquaryref05_Isqrt.l0, if_neg (by omega)]
 | succ j ih =>
  intro k x hj hx0 hx h1 h2 hk
  obtain ⟨k, rfl⟩ : ∃ q, k = q + 1 := ⟨k - 1, by omega⟩
  have hp : (2 : Int) ^ (j + 1) = 2 ^ j * 2 := Int.pow_succ ..
  have hp0 : (0 : Int) < 2 ^ j := Int.pow_pos (by omega)
  have es := shl_pow j (by omega)
  have e1 : ((j + 1 : Nat) : Int) - 1 = (j : Int) := by omega
  have e2 : (j : Int) ≥ 0 := by omega
  have e3 : (0 : Int) ≤ (j : Int) := by omega
  have e4 : wrap64 ((j : Int) - 1) = (j : Int) - 1 := w64 (by omega)
  rewrite [e1, antiquaryref05_Isqrt.l0, if_pos e2, if_pos e3, es, e4]
  rw [hp] at hx h2
  clear es e1 e2 e3 e4 hp
  generalize (2 : Int) ^ j = P at ih hx h2 hp0 ⊢
  have hb : (x + P) * (x + P) ≤ 2147483648 * 2147483648 := Int.mul_le_mul (by omega) (by omega) (by omega) (by omega)
  have hb0 : 0 ≤ (x + P) * (x + P) := Int.mul_nonneg (by omega) (by omega)
  have e5 : wrap64 (x + P) = x + P := w64 (by omega)
  have e6 : wrap64 ((x + P) * (x + P)) = (x + P) * (x + P) := w64 (by omega)
  rewrite [e5, e6]
  clear e5 e6
  by_cases c : (x + P) * (x + P) ≤ n
  ·rewrite [if_pos c]
   exact ih k (x + P) (by omega) (by omega) (by omega) c (by rw [show x + P + P = x + P * 2 by omega]; exact h2) (by omega)
  ·rewrite [if_neg c]
   exact ih k x (by omega) hx0 (by omega) h1 (by omega) (by omega)
theorem refIsqrt_f (n : Int) (h0 : 0 ≤ n) (h : n ≤ 72057594037927936) (k : Nat) (hk : 40 ≤ k) : ∃ s, antiquaryref05_Isqrt.f k n = some s ∧ 0 ≤ s ∧ s * s ≤ n ∧ n < (s + 1) * (s + 1) := by
 obtain ⟨q, rfl⟩ : ∃ q, k = q + 1 := ⟨k - 1, by omega⟩
 obtain ⟨s, hs, hr⟩ := refIsqrt_l0 n 31 q 0 (by omega) (by omega) (by decide) (by omega) (by
  have : ((0 : Int) + 2 ^ 31) * (0 + 2 ^ 31) = 4611686018427387904 := by decide
  omega) (by omega)
 refine ⟨s, ?_, hr⟩
 unfold antiquaryref05_Isqrt.f
 rewrite [if_neg (by omega), antiquaryref05_Isqrt.j0]
 exact hs
theorem refHigh_f (m : Int) {a b : Int} (ha0 : 0 ≤ a) (ha1 : a ≤ 134217728) (hb0 : 0 ≤ b) (hb1 : b ≤ 134217728) (k : Nat) (hk : 40 ≤ k) : antiquaryref05_High.f k m a b = metric_High.f m a b := by
 obtain ⟨s, s0, s1, s2, e⟩ := high_ex m ha0 ha1 hb0 hb1
 obtain ⟨h1, h2⟩ := mul_key ha0 ha1 hb0 hb1
 rw [e]
 have e0 : wrap64 (a + b) = a + b := w64 (by omega)
 have e1 : wrap64 (4 * a) = 4 * a := w64 (by omega)
 have e2 : wrap64 (4 * a * b) = 4 * a * b := w64 (by omega)
 unfold antiquaryref05_High.f
 rewrite [e0, e1, e2]
 clear e0 e1 e2
 by_cases c : m = 2
 ·obtain ⟨t, ht, t0, t1, t2⟩ := refIsqrt_f (4 * a * b) h1 h2 k hk
  obtain rfl := sq_uniq s0 t0 s1 s2 t1 t2
  have hs : s ≤ 72057594037927936 := by
   apply Decidable.byContradiction
   intro hc
   have : s * 1 ≤ s * s := Int.mul_le_mul_of_nonneg_left (by omega) (by omega)
   omega
  have e3 : wrap64 (a + b + s) = a + b + s := w64 (by omega)
  rewrite [if_pos c, if_pos c, ht, Option.bind_some, e3]
  clear e3
  unfold mn
  by_cases d : a + b + s > 134217728
  ·rw [if_pos d]; split <;> (congr 1 <;> omega)
  ·rw [if_neg d]; split <;> (congr 1 <;> omega)
 ·rewrite [if_neg c, if_neg c]
  unfold mn
  by_cases d : a + b > 134217728
  ·rw [if_pos d]; split <;> (congr 1 <;> omega)
  ·rw [if_neg d]; split <;> (congr 1 <;> omega)
theorem refCovers_f (m : Int) {a b : Int} (r : Int) (ha0 : 0 ≤ a) (ha1 : a ≤ 134217728) (hb0 : 0 ≤ b) (hb1 : b ≤ 134217728) (k : Nat) (hk : 40 ≤ k) : ∃ y, metric_High.f m a b = some y ∧ antiquaryref27_Covers.f k m a b r = some (decide (y ≤ r)) := by
 obtain ⟨s, s0, s1, s2, e⟩ := high_ex m ha0 ha1 hb0 hb1
 refine ⟨_, e, ?_⟩
 unfold antiquaryref27_Covers.f
 rw [refHigh_f m ha0 ha1 hb0 hb1 k hk, e, Option.bind_some]
theorem rd_L1_eq (l : List (List Int)) (i : Int) : rd_L1 l i = rdL l i := rfl
def FitL (l : List (List Int)) : Prop := (1 ≤ l.length ∧ l.length ≤ 4096) ∧ ∀ v ∈ l, validV v = true ∧ v.length = (rdL l 0).length
theorem fit_loop (l : List (List Int)) (hl : fewL l) (d : Nat) : ∀ i : Nat, i + d = l.length → (∀ j : Nat, j < i → validV (rdL l j) = true ∧ (rdL l j).length = (rdL l 0).length) → ∃ k r, antiquaryref09_Fit.l0 k l i = some r ∧ (r = true ↔ FitL l) := by
 induction d with
 | zero =>
  intro i hi hb
  have hall : ∀ v ∈ l, validV v = true ∧ v.length = (rdL l 0).length := by
   intro v hv
   obtain ⟨j, hj, rfl⟩ := List.mem_iff_getElem.1 hv
   have := hb j (by omega)
   rwa [rdL_get l j hj] at this
  by_cases c1 : (l.length : Int) ≥ 1
  ·refine ⟨1, decide ((l.length : Int) ≤ 4096), ?_, ?_⟩
   ·unfold antiquaryref09_Fit.l0; rw [if_neg (by omega), if_pos c1]
   ·rw [decide_eq_true_iff]
    exact ⟨fun h => ⟨⟨by omega, by omega⟩, hall⟩, fun h => by have := h.1.2; omega⟩
  ·refine ⟨1, false, ?_, ⟨fun h => (by cases h), fun h => by have := h.1.1; omega⟩⟩
   unfold antiquaryref09_Fit.l0; rw [if_neg (by omega), if_neg c1]
 | succ d ih =>
  intro i hi hb
  have hmem : rdL l i ∈ l := rdL_mem (by omega) (by omega)
  have h40 := hl.2 _ hmem
  have h25 := hl.1
  obtain ⟨kv, hv⟩ := valid04_ex (rdL l i) (by omega)
  cases hvv : validV (rdL l i) with
  | false =>
   refine ⟨kv + 1, false, ?_, ⟨fun h => (by cases h), fun h => by have := (h.2 _ hmem).1; rw [hvv] at this; cases this⟩⟩
   unfold antiquaryref09_Fit.l0
   rw [if_pos (by omega), if_pos (by omega), rd_L1_eq, hv, hvv]; rfl
  | true =>
   by_cases c : ((rdL l i).length : Int) = ((rdL l 0).length : Int)
   ·obtain ⟨k, r, h1, h2⟩ := ih (i + 1) (by omega) (fun j hj => by
     rcases Nat.lt_or_ge j i with h5 | h5
     ·exact hb j h5
     ·have : j = i := by omega
      subst this; exact ⟨hvv, by omega⟩)
    refine ⟨k + kv + 1, r, ?_, h2⟩
    unfold antiquaryref09_Fit.l0
    rw [if_pos (by omega), if_pos (by omega), rd_L1_eq, up_le (antiquaryref04_Valid.mono _) hv (show kv ≤ k + kv by omega), hvv]
    rw [Option.bind_some]
    rw [if_pos rfl, if_pos (by omega), rd_L1_eq, if_pos c, w64 (by omega)]
    exact up_le (f := fun k => antiquaryref09_Fit.l0 k l ((i : Int) + 1)) (fun k => antiquaryref09_Fit.mono_l k _ _) h1 (by omega)
   ·refine ⟨kv + 1, false, ?_, ⟨fun h => (by cases h), fun h => by have := (h.2 _ hmem).2; omega⟩⟩
    unfold antiquaryref09_Fit.l0
    rw [if_pos (by omega), if_pos (by omega), rd_L1_eq, hv, hvv]
    rw [Option.bind_some]
    rw [if_pos rfl, if_pos (by omega), rd_L1_eq, if_neg c]
theorem fit_ex (l : List (List Int)) (hl : fewL l) : ∃ k r, antiquaryref09_Fit.f k l = some r ∧ (r = true ↔ FitL l) := fit_loop l hl l.length 0 (by omega) (fun j hj => by omega)
theorem right_iff_fit {m : Int} {l : List (List Int)} : rightF m l = true ↔ (1 ≤ m ∧ m ≤ 3) ∧ FitL l := by
 rw [rightF_iff]
 unfold FitL
 constructor
 ·rintro ⟨h1, h2, h3⟩
  exact ⟨h1, h2, fun v hv => ⟨(alikeF_iff.1 (h3 v hv)).2.2, (alikeF_iff.1 (h3 v hv)).1.symm⟩⟩
 ·rintro ⟨h1, h2, h3⟩
  refine ⟨h1, h2, fun v hv => alikeF_iff.2 ⟨(h3 v hv).2.symm, (h3 _ (rdL_mem (by omega) (by omega))).1, (h3 v hv).1⟩⟩
theorem same_loop (a b : List Int) (hl : a.length = b.length) (ha : a.length ≤ 4096) (d : Nat) : ∀ i : Nat, i + d = a.length → ∃ k r, antiquaryref27_Same.l0 k a b i = some r ∧ (r = true ↔ ∀ j : Nat, i ≤ j → j < a.length → rd a j = rd b j) := by
 induction d with
 | zero =>
  intro i hi
  refine ⟨1, true, ?_, ⟨fun _ j h1 h2 => by omega, fun _ => rfl⟩⟩
  unfold antiquaryref27_Same.l0; rw [if_neg (by omega)]
 | succ d ih =>
  intro i hi
  by_cases c : rd a i = rd b i
  ·obtain ⟨k, r, h1, h2⟩ := ih (i + 1) (by omega)
   refine ⟨k + 1, r, ?_, ?_⟩
   ·unfold antiquaryref27_Same.l0; rw [if_pos (by omega), if_pos (by omega), if_pos (by omega), if_pos c, w64 (by omega)]; exact h1
   ·rw [h2]
    constructor
    ·intro h j h3 h4
     rcases Nat.lt_or_ge i j with h5 | h5
     ·exact h j h5 h4
     ·have : j = i := by omega
      subst this; exact c
    ·intro h j h3 h4; exact h j (by omega) h4
  ·refine ⟨1, false, ?_, ⟨fun h => (by cases h), fun h => absurd (h i (Nat.le_refl _) (by omega)) c⟩⟩
   unfold antiquaryref27_Same.l0; rw [if_pos (by omega), if_pos (by omega), if_pos (by omega), if_neg c]
theorem same_ex (a b : List Int) (ha : a.length ≤ 4096) : ∃ k, antiquaryref27_Same.f k a b = some (decide (a = b)) := by
 by_cases c : (a.length : Int) = (b.length : Int)
 ·obtain ⟨k, r, h1, h2⟩ := same_loop a b (by omega) ha a.length 0 (by omega)
  refine ⟨k, ?_⟩
  unfold antiquaryref27_Same.f; rw [if_pos c]
  refine h1.trans ?_
  congr 1
  have : r = true ↔ a = b := by
   rw [h2]
   constructor
   ·intro h
    refine List.ext_getElem (by omega) fun j hj hj' => ?_
    have := h j (Nat.zero_le _) hj
    simpa [rd, hj, hj'] using this
   ·rintro rfl j _ _; rfl
  cases r with
  | true => exact (decide_eq_true (this.1 rfl)).symm
  | false => symm; rw [decide_eq_false_iff_not]; intro h; have := this.2 h; cases this
 ·refine ⟨0, ?_⟩
  unfold antiquaryref27_Same.f; rw [if_neg c]
  congr 1; symm; rw [decide_eq_false_iff_not]; rintro rfl; exact c rfl
theorem sub04_loop (a b : List Int) (h : alikeF a b = true) (d : Nat) : ∀ i : Nat, i + d = a.length → ∃ k, antiquaryref04_Sub.l0 k a b ((subV a b).take i) i = some (subV a b) := by
 obtain ⟨hl, ha, hb⟩ := alikeF_iff.1 h
 obtain ⟨ha1, ha2, ha3⟩ := validV_iff.1 ha
 obtain ⟨hb1, hb2, hb3⟩ := validV_iff.1 hb
 have hsl := subV_length a b hl
 induction d with
 | zero =>
  intro i hi
  refine ⟨1, ?_⟩
  unfold antiquaryref04_Sub.l0; rw [if_neg (by omega), List.take_of_length_le (by omega)]
 | succ d ih =>
  intro i hi
  obtain ⟨k, h1⟩ := ih (i + 1) (by omega)
  refine ⟨k + 1, ?_⟩
  have r1 := ha1 _ (rd_mem (l := a) (i := (i : Int)) (by omega) (by omega))
  have r2 := hb1 _ (rd_mem (l := b) (i := (i : Int)) (by omega) (by omega))
  unfold antiquaryref04_Sub.l0
  rw [if_pos (by omega), if_pos (by omega), if_pos (by omega), if_pos (by simp; omega), w64 (by omega), w64 (by omega), ← rd_subV a b hl i (by omega), ← take_succ_rd _ _ (by omega)]
  exact h1
theorem sub04_ex (a b : List Int) (h : alikeF a b = true) : ∃ k, antiquaryref04_Sub.f k a b = some (subV a b) := by
 obtain ⟨k, h1⟩ := sub04_loop a b h a.length 0 (by omega)
 exact ⟨k, by simpa [antiquaryref04_Sub.f] using h1⟩
theorem size04 (x : Int) (h : small x) : antiquaryref04_size.f x = some (mx x (-x)) := by
 obtain ⟨h1, h2⟩ := h
 unfold antiquaryref04_size.f mx
 by_cases c : x < 0
 ·rw [if_pos c, w64 (by omega)]; congr 1; split <;> omega
 ·rw [if_neg c]; congr 1; split <;> omega
theorem norm04_loop (m : Int) (hm : 1 ≤ m ∧ m ≤ 3) (v : List Int) (hv : ∀ x ∈ v, small x) (hl : v.length ≤ 100) (d : Nat) : ∀ i : Nat, i + d = v.length → ∃ k, antiquaryref04_Norm.l0 k m v (normF m (v.take i)) i = some (normF m v) := by
 induction d with
 | zero =>
  intro i hi
  refine ⟨1, ?_⟩
  unfold antiquaryref04_Norm.l0; rw [if_neg (by omega), List.take_of_length_le (by omega)]
 | succ d ih =>
  intro i hi
  obtain ⟨k, h1⟩ := ih (i + 1) (by omega)
  have hs := hv _ (rd_mem (l := v) (i := (i : Int)) (by omega) (by omega))
  have hb := normF_bd m (v.take i) (fun x hx => hv x (List.mem_of_mem_take hx))
  have hb2 := normF_bd m (v.take (i + 1)) (fun x hx => hv x (List.mem_of_mem_take hx))
  have hti : (v.take i).length ≤ 100 := by simp; omega
  have hti2 : (v.take (i + 1)).length ≤ 100 := by simp; omega
  have hsq := sq_small _ hs
  rw [normF_take_succ m v i (by omega)] at h1 hb2
  refine ⟨k + 1, ?_⟩
  unfold antiquaryref04_Norm.l0
  rw [if_pos (by omega)]
  by_cases c1 : m = 1
  ·rw [if_pos c1, if_pos (by omega), size04 _ hs, Option.bind_some]
   have e : stepN m (normF m (v.take i)) (rd v i) = normF m (v.take i) + mx (rd v i) (-(rd v i)) := by unfold stepN; rw [if_pos c1]
   rw [e] at h1 hb2
   rw [w64 (by omega), w64 (by omega)]
   exact h1
  ·by_cases c2 : m = 2
   ·have e : stepN m (normF m (v.take i)) (rd v i) = normF m (v.take i) + rd v i * rd v i := by unfold stepN; rw [if_neg c1, if_pos c2]
    rw [e] at h1 hb2
    rw [if_neg c1, if_pos c2, if_pos (by omega), w64 (i := rd v i * rd v i) (by omega), w64 (by omega), w64 (by omega)]
    exact h1
   ·have e : stepN m (normF m (v.take i)) (rd v i) = mx (normF m (v.take i)) (mx (rd v i) (-(rd v i))) := by
     unfold stepN; rw [if_neg c1, if_neg c2]; unfold mx; repeat' split
     all_goals omega
    rw [e] at h1
    rw [if_neg c1, if_neg c2, if_pos (by omega), size04 _ hs, Option.bind_some]
    rw [w64 (by omega)]
    exact h1
theorem norm04_ex (m : Int) (hm : 1 ≤ m ∧ m ≤ 3) (v : List Int) (hv : ∀ x ∈ v, small x) (hl : v.length ≤ 100) : ∃ k, antiquaryref04_Norm.f k m v = some (normF m v) := by
 obtain ⟨k, h⟩ := norm04_loop m hm v hv hl v.length 0 (by omega)
 exact ⟨k, by simpa [antiquaryref04_Norm.f, normF] using h⟩
theorem key04_ex (m : Int) (hm : 1 ≤ m ∧ m ≤ 3) (a b : List Int) (h : alikeF a b = true) : ∃ k, antiquaryref04_Key.f k m a b = some (keyV m a b) := by
 obtain ⟨hl, ha, hb⟩ := alikeF_iff.1 h
 obtain ⟨ha1, ha2, ha3⟩ := validV_iff.1 ha
 obtain ⟨hb1, hb2, hb3⟩ := validV_iff.1 hb
 obtain ⟨k1, h1⟩ := sub04_ex a b h
 obtain ⟨k2, h2⟩ := norm04_ex m hm (subV a b) (subV_small a b ha1 hb1) (by rw [subV_length a b hl]; omega)
 refine ⟨k1 + k2, ?_⟩
 unfold antiquaryref04_Key.f
 rw [up_le (antiquaryref04_Sub.mono _ _) h1 (by omega), Option.bind_some, up_le (antiquaryref04_Norm.mono _ _) h2 (by omega)]
 rfl
def leK (ks : List Int) (a b : Int) : Prop := rd ks a < rd ks b ∨ rd ks a = rd ks b ∧ a ≤ b
instance (ks : List Int) (a b : Int) : Decidable (leK ks a b) := by unfold leK; infer_instance
theorem leK_ltF {ks : List Int} {a b : Int} : leK ks a b ↔ ltF (orderF ks) b a = false := by
 rw [ltF_no]; unfold leK; omega
theorem rd_natE (xs : List Int) (q : Nat) : rd xs (q : Int) = xs[q]?.getD 0 := by
 unfold rd
 simp [List.getD_eq_getElem?_getD]
theorem rd_suc (xs : List Int) (q : Nat) : rd xs ((q : Int) + 1) = xs[q + 1]?.getD 0 := by
 have := rd_natE xs (q + 1)
 rwa [show ((q + 1 : Nat) : Int) = (q : Int) + 1 by omega] at this
theorem swapL_rd (xs : List Int) (k : Nat) (h : k + 1 < xs.length) (q : Nat) : rd (swapL xs k) q = if q = k then rd xs ((k : Int) + 1) else if q = k + 1 then rd xs k else rd xs q := by
 unfold swapL
 rw [rd_natE, List.getElem?_set, List.getElem?_set]
 by_cases c : q = k
 ·subst c
  rw [if_pos rfl, if_pos rfl, if_pos (by simp; omega)]; rfl
 ·rw [if_neg (fun e => c e.symm), if_neg c]
  by_cases d : q = k + 1
  ·subst d
   rw [if_pos rfl, if_pos rfl, if_pos h]; rfl
  ·rw [if_neg (fun e => d e.symm), if_neg d, rd_natE]
theorem swapL_perm (xs : List Int) (k : Nat) (h : k + 1 < xs.length) : (swapL xs k).Perm xs := by
 have e := @List.set_set_perm Int xs (k + 1) k h (by omega)
 unfold swapL
 rw [rd_natE, rd_suc]
 have e1 : xs[k]?.getD 0 = xs[k] := by rw [List.getElem?_eq_getElem (by omega)]; rfl
 have e2 : xs[k + 1]?.getD 0 = xs[k + 1] := by rw [List.getElem?_eq_getElem h]; rfl
 rw [e1, e2]
 exact e
def Ex (ks : List Int) (n e : Nat) (xs : List Int) : Prop := ∀ p q : Nat, p < q → q < n → q ≠ e → leK ks (rd xs p) (rd xs q)
theorem ex_swap {ks : List Int} {n k : Nat} {xs : List Int} (hn : n ≤ xs.length) (hk : k + 1 < n) (h : Ex ks n (k + 1) xs) (hlt : ¬ leK ks (rd xs k) (rd xs ((k : Int) + 1))) : Ex ks n k (swapL xs k) := by
 have hrev : leK ks (rd xs ((k : Int) + 1)) (rd xs k) := by unfold leK at *; omega
 intro p q hpq hq hqe
 rw [swapL_rd xs k (by omega) p, swapL_rd xs k (by omega) q, if_neg hqe]
 have e1 : ((k + 1 : Nat) : Int) = (k : Int) + 1 := by omega
 by_cases c : q = k + 1
 ·subst c
  rw [if_pos rfl]
  by_cases d : p = k
  ·subst d; rw [if_pos rfl]; exact hrev
  ·rw [if_neg d, if_neg (by omega)]
   exact h p k (by omega) (by omega) (by omega)
 ·rw [if_neg c]
  by_cases d : p = k
  ·subst d
   rw [if_pos rfl, ← e1]
   exact h (p + 1) q (by omega) hq (by omega)
  ·rw [if_neg d]
   by_cases f : p = k + 1
   ·rw [if_pos f]
    exact h k q (by omega) hq (by omega)
   ·rw [if_neg f]
    exact h p q hpq hq (by omega)
theorem ex_stay {ks : List Int} {n k : Nat} {xs : List Int} (hk : k + 1 < n) (h : Ex ks n (k + 1) xs) (hle : leK ks (rd xs k) (rd xs ((k : Int) + 1))) : Ex ks n k xs := by
 have e1 : ((k + 1 : Nat) : Int) = (k : Int) + 1 := by omega
 intro p q hpq hq hqe
 by_cases c : q = k + 1
 ·subst c
  rw [e1]
  by_cases d : p = k
  ·subst d; exact hle
  ·have := h p k (by omega) (by omega) (by omega)
   unfold leK at *; omega
 ·exact h p q hpq hq c
theorem order_l1 (m : Int) (hm : 1 ≤ m ∧ m ≤ 3) (l : List (List Int)) (v : List Int) (hal : ∀ x ∈ l, alikeF x v = true) (hl : l.length ≤ 4096) (i : Nat) : ∀ (j : Nat) (xs : List Int), j ≤ i → i < xs.length → xs.length ≤ 4096 → (∀ x ∈ xs, 0 ≤ x ∧ x < (l.length : Int)) → Ex (keysV m l v) (i + 1) j xs →
  ∃ ys, ys.Perm xs ∧ Ex (keysV m l v) (i + 1) 0 ys ∧ ∀ K0 r, antiquaryref27_Order.l0 K0 m l v ys ((i : Int) + 1) = some r → ∃ K, antiquaryref27_Order.l1 K m l v xs i j = some r := by
 have ei := Aside0.mk (show wrap64 ((i : Int) + 1) = wrap64 ((i : Int) + 1) from rfl)
 intro j
 induction j with
 | zero =>
  intro xs _ hi hx _ hs
  refine ⟨xs, List.Perm.refl _, hs, fun K0 r h => ⟨K0 + 1, ?_⟩⟩
  have e : wrap64 ((i : Int) + 1) = (i : Int) + 1 := w64 (by omega)
  rw [antiquaryref27_Order.l1, if_neg (by omega), e]
  exact h
 | succ j ih =>
  intro xs hj hi hx hin hs
  have hjx : j < xs.length := by omega
  have m1 := hin _ (rd_mem (l := xs) (i := (j : Int)) (by omega) (by omega))
  have m2 := hin _ (rd_mem (l := xs) (i := (j : Int) + 1) (by omega) (by omega))
  obtain ⟨ka, ha⟩ := key04_ex m hm (rdL l (rd xs j)) v (hal _ (rdL_mem m1.1 m1.2))
  obtain ⟨kb, hb⟩ := key04_ex m hm (rdL l (rd xs ((j : Int) + 1))) v (hal _ (rdL_mem m2.1 m2.2))
  have ra : keyV m (rdL l (rd xs j)) v = rd (keysV m l v) (rd xs j) := (rd_keysV m l v _ m1.1 m1.2).symm
  have rb : keyV m (rdL l (rd xs ((j : Int) + 1))) v = rd (keysV m l v) (rd xs ((j : Int) + 1)) := (rd_keysV m l v _ m2.1 m2.2).symm
  have ej : wrap64 ((((j + 1 : Nat) : Int)) - 1) = (j : Int) := by rw [w64 (by omega)]; omega
  have e1 : ((j + 1 : Nat) : Int) = (j : Int) + 1 := by omega
  have et1 : ((j : Int) + 1).toNat = j + 1 := by omega
  have et0 : (j : Int).toNat = j := by omega
  have hsw : (xs.set ((j : Int) + 1).toNat (rd xs j)).set (j : Int).toNat (rd xs ((j : Int) + 1)) = swapL xs j := by rw [et1, et0]; rfl
  have HSW := Aside0.mk hsw
  have EJ := Aside0.mk ej
  clear hsw ej et1 et0
  have hexp : ∀ K, ka ≤ K → kb ≤ K → antiquaryref27_Order.l1 (K + 1) m l v xs i ((j + 1 : Nat) : Int) = if leK (keysV m l v) (rd xs j) (rd xs ((j : Int) + 1)) then antiquaryref27_Order.l1 K m l v xs i j else antiquaryref27_Order.l1 K m l v (swapL xs j) i j := by
   intro K h1 h2
   rw [antiquaryref27_Order.l1, EJ.out, e1, if_pos (by omega), if_pos (by omega), if_pos (by omega), if_pos m1.1, if_pos m1.2, rd_L1_eq, up_le (antiquaryref04_Key.mono _ _ _) ha h1, Option.bind_some, if_pos (by omega), if_pos (by omega), if_pos m2.1, if_pos m2.2, rd_L1_eq, up_le (antiquaryref04_Key.mono _ _ _) hb h2, Option.bind_some, HSW.out, ra, rb]
   by_cases c1 : rd (keysV m l v) (rd xs j) > rd (keysV m l v) (rd xs ((j : Int) + 1))
   ·rw [if_pos c1, if_neg (by unfold leK; omega)]
   ·rw [if_neg c1]
    by_cases c2 : rd (keysV m l v) (rd xs j) = rd (keysV m l v) (rd xs ((j : Int) + 1))
    ·rw [if_pos c2]
     by_cases c3 : rd xs j > rd xs ((j : Int) + 1)
     ·rw [if_pos c3, if_neg (by unfold leK; omega)]
     ·rw [if_neg c3, if_pos (by unfold leK; omega)]
    ·rw [if_neg c2, if_pos (by unfold leK; omega)]
  have up : ∀ (zs : List Int) (k k' : Nat) (r : List Int), antiquaryref27_Order.l1 k m l v zs i j = some r → k ≤ k' → antiquaryref27_Order.l1 k' m l v zs i j = some r := fun zs k k' r h hk =>
   up_le (f := fun k => antiquaryref27_Order.l1 k m l v zs i j) (fun k => (antiquaryref27_Order.mono_l k).2 _ _ _ _ _ _) h hk
  by_cases c : leK (keysV m l v) (rd xs j) (rd xs ((j : Int) + 1))
  ·obtain ⟨ys, p1, p2, p3⟩ := ih xs (by omega) hi hx hin (ex_stay (by omega) hs c)
   refine ⟨ys, p1, p2, fun K0 r h => ?_⟩
   obtain ⟨K, hK⟩ := p3 K0 r h
   refine ⟨K + ka + kb + 1, ?_⟩
   rw [hexp _ (by omega) (by omega), if_pos c]
   exact up _ _ _ _ hK (by omega)
  ·have hpm := swapL_perm xs j (by omega)
   obtain ⟨ys, p1, p2, p3⟩ := ih (swapL xs j) (by omega) (by rw [swapL_length]; exact hi) (by rw [swapL_length]; exact hx) (fun x hx' => hin x (hpm.mem_iff.1 hx')) (ex_swap (by omega) (by omega) hs c)
   refine ⟨ys, p1.trans hpm, p2, fun K0 r h => ?_⟩
   obtain ⟨K, hK⟩ := p3 K0 r h
   refine ⟨K + ka + kb + 1, ?_⟩
   rw [hexp _ (by omega) (by omega), if_neg c]
   exact up _ _ _ _ hK (by omega)
theorem order_l0 (m : Int) (hm : 1 ≤ m ∧ m ≤ 3) (l : List (List Int)) (v : List Int) (hal : ∀ x ∈ l, alikeF x v = true) (hl : l.length ≤ 4096) (d : Nat) : ∀ (i : Nat) (xs : List Int), i + d = xs.length → xs.length ≤ 4096 → (∀ x ∈ xs, 0 ≤ x ∧ x < (l.length : Int)) → Ex (keysV m l v) i 0 xs →
  ∃ K ys, antiquaryref27_Order.l0 K m l v xs i = some ys ∧ ys.Perm xs ∧ Ex (keysV m l v) xs.length 0 ys := by
 induction d with
 | zero =>
  intro i xs hi hx _ hs
  refine ⟨1, xs, ?_, List.Perm.refl _, by rw [← show i = xs.length by omega]; exact hs⟩
  rw [antiquaryref27_Order.l0, if_neg (by omega)]
 | succ d ih =>
  intro i xs hi hx hin hs
  obtain ⟨ys, p1, p2, p3⟩ := order_l1 m hm l v hal hl i i xs (Nat.le_refl _) (by omega) hx hin (fun p q hpq hq hqe => hs p q hpq (by omega) (by omega))
  obtain ⟨K0, zs, z1, z2, z3⟩ := ih (i + 1) ys (by rw [p1.length_eq]; omega) (by rw [p1.length_eq]; exact hx) (fun x hx' => hin x (p1.mem_iff.1 hx')) p2
  obtain ⟨K, hK⟩ := p3 K0 zs z1
  refine ⟨K + 1, zs, ?_, z2.trans p1, by rw [← p1.length_eq]; exact z3⟩
  rw [antiquaryref27_Order.l0, if_pos (by omega)]
  exact hK
def ordV (ks xs : List Int) : List Int := xs.mergeSort fun x y => !ltF (orderF ks) y x
theorem ordV_of {ks xs ys : List Int} (hp : ys.Perm xs) (hs : Ex ks xs.length 0 ys) : ys = ordV ks xs := by
 have h := Go.Sort.sorted_unique_holds (lt := ltF (orderF ks)) (order_swo ks) (order_tri ks) xs.toArray ys.toArray ⟨by simp [hp.length_eq], fun i hi => by
  have h1 : xs.length ≤ i := by simp at hi; exact hi
  have h2 : ys.length ≤ i := by rw [hp.length_eq]; exact h1
  simp [Array.getElem!_eq_getD, Array.getD_eq_getD_getElem?, h1, h2], by
  have e1 : xs.toArray.size = ys.toArray.size := by simp [hp.length_eq]
  rw [show (ys.toArray.extract 0 xs.toArray.size) = ys.toArray by rw [e1]; simp, show (xs.toArray.extract 0 xs.toArray.size) = xs.toArray by simp]
  exact hp⟩ (fun p q _ hpq hq => by
  have hq' : q < xs.length := by simpa using hq
  have := leK_ltF.1 (hs p q hpq hq' (by omega))
  rw [rd_natE, rd_natE] at this
  simpa [Array.getElem!_eq_getD, Array.getD_eq_getD_getElem?] using this)
 simpa [ordV] using h
theorem order_ex (m : Int) (hm : 1 ≤ m ∧ m ≤ 3) (l : List (List Int)) (v : List Int) (hal : ∀ x ∈ l, alikeF x v = true) (hl : l.length ≤ 4096) (xs : List Int) (hx : xs.length ≤ 4096) (hin : ∀ x ∈ xs, 0 ≤ x ∧ x < (l.length : Int)) :
  ∃ K, antiquaryref27_Order.f K m l v xs = some (ordV (keysV m l v) xs) := by
 obtain ⟨K, ys, h1, h2, h3⟩ := order_l0 m hm l v hal hl xs.length 0 xs (by omega) hx hin (fun p q _ hq _ => absurd hq (by omega))
 refine ⟨K, ?_⟩
 rw [← ordV_of h2 h3]
 unfold antiquaryref27_Order.f
 rw [Option.bind_some, if_pos (by simp; omega), List.nil_append]
 exact h1
theorem sortF_ordV (ks xs : List Int) : sortF (orderF ks) xs = ordV ks xs := by
 unfold sortF
 split
 ·rename_i h
  cases hx : xs with
  | nil => simp [insTo, ordV]
  | cons x r =>
   have e := insTo_sort (orderF ks) 0 (xs.length - 1) xs.toArray
   have hl : 0 + (xs.length - 1) + 1 = xs.length := by rw [hx]; simp
   rw [hl] at e
   obtain ⟨p, s⟩ := Go.Sort.insertionSort_holds (lt := ltF (orderF ks)) (order_swo ks) xs.toArray 0 xs.length (Nat.zero_le _) (by simp)
   have u := Go.Sort.sorted_unique_holds (lt := ltF (orderF ks)) (order_swo ks) (order_tri ks) xs.toArray _ (by simpa using p) (by simpa using s)
   rw [← hx]
   unfold ordV
   have e' : insTo (orderF ks) 0 (xs.length - 1) xs = _ := e
   rw [e', u]
 ·rfl
theorem has_loop (xs : List Int) (x : Int) (hx : xs.length ≤ 4096) (d : Nat) : ∀ i : Nat, i + d = xs.length → ∃ k r, antiquaryref27_has.l0 k xs x i = some r ∧ (r = true ↔ ∃ q : Nat, i ≤ q ∧ q < xs.length ∧ rd xs q = x) := by
 induction d with
 | zero =>
  intro i hi
  refine ⟨1, false, ?_, ⟨fun h => (by cases h), fun ⟨q, h1, h2, _⟩ => by omega⟩⟩
  unfold antiquaryref27_has.l0; rw [if_neg (by omega)]
 | succ d ih =>
  intro i hi
  by_cases he : rd xs i = x
  ·refine ⟨1, true, ?_, ⟨fun _ => ⟨i, Nat.le_refl _, by omega, he⟩, fun _ => rfl⟩⟩
   unfold antiquaryref27_has.l0; rw [if_pos (by omega), if_pos (by omega), if_pos he]
  ·obtain ⟨k, r, h1, h2⟩ := ih (i + 1) (by omega)
   refine ⟨k + 1, r, ?_, ?_⟩
   ·unfold antiquaryref27_has.l0; rw [if_pos (by omega), if_pos (by omega), if_neg he, w64 (by omega)]; exact h1
   ·rw [h2]
    constructor
    ·rintro ⟨q, h3, h4, h5⟩; exact ⟨q, by omega, h4, h5⟩
    ·rintro ⟨q, h3, h4, h5⟩
     refine ⟨q, ?_, h4, h5⟩
     rcases Nat.lt_or_ge i q with h | h
     ·omega
     ·have : q = i := by omega
      subst this; exact absurd h5 he
theorem has_ex (xs : List Int) (x : Int) (hx : xs.length ≤ 4096) : ∃ k r, antiquaryref27_has.f k xs x = some r ∧ (r = true ↔ x ∈ xs) := by
 obtain ⟨k, r, h1, h2⟩ := has_loop xs x hx xs.length 0 (by omega)
 refine ⟨k, r, h1, h2.trans ?_⟩
 rw [mem_iff_rd]
 exact ⟨fun ⟨q, _, h3, h4⟩ => ⟨q, h3, h4⟩, fun ⟨q, h3, h4⟩ => ⟨q, Nat.zero_le _, h3, h4⟩⟩
theorem v27_l1 (n : Int) (g : List Hd) (i : Nat) (radius : Int) (xs : List Int) (hx : xs.length ≤ 4096) (hi : (i : Int) < 4611686018427387904) (b : Bool) (k0 : Nat) (h0 : antiquaryref27_Valid.l0 k0 n ((i : Int) + 1) g = some b) (d : Nat) : ∀ p : Nat, p + d = xs.length →
  ∃ k r, antiquaryref27_Valid.l1 k n i p g radius xs = some r ∧ (r = true ↔ (∀ q : Nat, p ≤ q → q < xs.length → okAt n xs q) ∧ b = true) := by
 induction d with
 | zero =>
  intro p hp
  refine ⟨k0 + 1, b, ?_, ?_⟩
  ·unfold antiquaryref27_Valid.l1
   rw [if_neg (by omega), w64 (by omega)]
   exact h0
  ·constructor
   ·intro h; exact ⟨fun q h1 h2 => by omega, h⟩
   ·exact fun h => h.2
 | succ d ih =>
  intro p hp
  by_cases c1 : rd xs p < 0
  ·refine ⟨1, false, ?_, ?_⟩
   ·unfold antiquaryref27_Valid.l1; rw [if_pos (by omega), if_pos (by omega), if_pos c1]
   ·constructor
    ·intro h; cases h
    ·rintro ⟨h, _⟩; have := (h p (Nat.le_refl _) (by omega)).1; omega
  ·by_cases c2 : rd xs p ≥ n
   ·refine ⟨1, false, ?_, ?_⟩
    ·unfold antiquaryref27_Valid.l1; rw [if_pos (by omega), if_pos (by omega), if_neg c1, if_pos c2]
    ·constructor
     ·intro h; cases h
     ·rintro ⟨h, _⟩; have := (h p (Nat.le_refl _) (by omega)).2.1; omega
   ·obtain ⟨k, r, h1, h2⟩ := ih (p + 1) (by omega)
    have hiff : ∀ hq : okAt n xs p, ((∀ q : Nat, p + 1 ≤ q → q < xs.length → okAt n xs q) ∧ b = true ↔ (∀ q : Nat, p ≤ q → q < xs.length → okAt n xs q) ∧ b = true) := by
     intro hq
     constructor
     ·rintro ⟨h, hb⟩
      refine ⟨fun q h3 h4 => ?_, hb⟩
      rcases Nat.lt_or_ge p q with h5 | h5
      ·exact h q h5 h4
      ·have : q = p := by omega
       subst this; exact hq
     ·rintro ⟨h, hb⟩; exact ⟨fun q h3 h4 => h q (by omega) h4, hb⟩
    by_cases c3 : (p : Int) > 0
    ·by_cases c4 : rd xs p ≤ rd xs ((p : Int) - 1)
     ·refine ⟨1, false, ?_, ?_⟩
      ·unfold antiquaryref27_Valid.l1
       rw [if_pos (by omega), if_pos (by omega), if_neg c1, if_neg c2, if_pos c3, w64 (i := (p : Int) - 1) (by omega), if_pos (by omega), if_pos (by omega), if_pos c4]
      ·constructor
       ·intro h; cases h
       ·rintro ⟨h, _⟩; have := (h p (Nat.le_refl _) (by omega)).2.2 (by omega); omega
     ·refine ⟨k + 1, r, ?_, ?_⟩
      ·unfold antiquaryref27_Valid.l1
       rw [if_pos (by omega), if_pos (by omega), if_neg c1, if_neg c2, if_pos c3, w64 (i := (p : Int) - 1) (by omega), if_pos (by omega), if_pos (by omega), if_neg c4, w64 (by omega)]
       exact h1
      ·rw [h2]; exact hiff ⟨by omega, by omega, fun _ => by omega⟩
    ·refine ⟨k + 1, r, ?_, ?_⟩
     ·unfold antiquaryref27_Valid.l1
      rw [if_pos (by omega), if_pos (by omega), if_neg c1, if_neg c2, if_neg c3, w64 (by omega)]
      exact h1
     ·rw [h2]; exact hiff ⟨by omega, by omega, fun _ => by omega⟩
theorem v27_l0 (g : List Hd) (hs : ∀ h ∈ g, h.f1.length ≤ 4096) (hl : g.length ≤ 4096) (n : Int) (hn : (g.length : Int) = n) (d : Nat) : ∀ i : Nat, i + d = g.length →
  ∃ k r, antiquaryref27_Valid.l0 k n i g = some r ∧ (r = true ↔ ∀ j : Nat, i ≤ j → j < g.length → hoodOk n j (rd_T61 g j)) := by
 induction d with
 | zero =>
  intro i hi
  refine ⟨1, true, ?_, ⟨fun _ j h1 h2 => by omega, fun _ => rfl⟩⟩
  unfold antiquaryref27_Valid.l0; rw [if_neg (by omega)]
 | succ d ih =>
  intro i hi
  obtain ⟨k0, b, h1, h2⟩ := ih (i + 1) (by omega)
  have hlen := hs _ (rd_T_mem (g := g) (i := (i : Int)) (by omega) (by omega))
  obtain ⟨k1, r1, h3, h4⟩ := v27_l1 n g i (rd_T61 g i).f0 (rd_T61 g i).f1 hlen (by omega) b k0 h1 (rd_T61 g i).f1.length 0 (by omega)
  obtain ⟨k2, r2, h5, h6⟩ := has_ex (rd_T61 g i).f1 i hlen
  have hsplit : (∀ j : Nat, i ≤ j → j < g.length → hoodOk n j (rd_T61 g j)) ↔ (hoodOk n i (rd_T61 g i) ∧ b = true) := by
   rw [h2]
   constructor
   ·intro h; exact ⟨h i (Nat.le_refl _) (by omega), fun j h7 h8 => h j (by omega) h8⟩
   ·rintro ⟨h7, h8⟩ j h9 h10
    rcases Nat.lt_or_ge i j with h11 | h11
    ·exact h8 j h11 h10
    ·have : j = i := by omega
     subst this; exact h7
  rw [hood_split] at hsplit
  by_cases c1 : (rd_T61 g i).f0 < 0
  ·refine ⟨2, false, ?_, ?_⟩
   ·unfold antiquaryref27_Valid.l0
    rw [if_pos (by omega), if_pos (by omega), if_pos (by omega), if_pos c1]; rfl
   ·rw [hsplit]; exact ⟨fun h => (by cases h), fun h => absurd c1 h.1.1⟩
  ·by_cases c2 : (rd_T61 g i).f0 > 134217728
   ·refine ⟨2, false, ?_, ?_⟩
    ·unfold antiquaryref27_Valid.l0
     rw [if_pos (by omega), if_pos (by omega), if_pos (by omega), if_neg c1, if_pos c2]; rfl
    ·rw [hsplit]; exact ⟨fun h => (by cases h), fun h => absurd c2 h.1.2.1⟩
   ·cases hr2 : r2 with
    | false =>
     refine ⟨k2 + 2, false, ?_, ?_⟩
     ·unfold antiquaryref27_Valid.l0
      rw [if_pos (by omega), if_pos (by omega), if_pos (by omega), if_neg c1, if_neg c2, up_le (antiquaryref27_has.mono _ _) h5 (show k2 ≤ k2 + 1 by omega), hr2]; rfl
     ·rw [hsplit]; exact ⟨fun h => (by cases h), fun h => by have := h6.2 h.1.2.2.1; rw [hr2] at this; cases this⟩
    | true =>
     refine ⟨k1 + k2 + 2, r1, ?_, ?_⟩
     ·unfold antiquaryref27_Valid.l0
      rw [if_pos (by omega), if_pos (by omega), if_pos (by omega), if_neg c1, if_neg c2, up_le (antiquaryref27_has.mono _ _) h5 (show k2 ≤ k1 + k2 + 1 by omega), hr2]
      show antiquaryref27_Valid.j2 (k1 + k2 + 1) n i (!true) g _ _ = some r1
      unfold antiquaryref27_Valid.j2
      rw [if_neg (by simp)]
      exact up_le (f := fun k => antiquaryref27_Valid.l1 k n i 0 g (rd_T61 g i).f0 (rd_T61 g i).f1) (fun k => (antiquaryref27_Valid.mono_l k).2.2.2 _ _ _ _ _ _) h3 (by omega)
     ·rw [h4, hsplit]
      constructor
      ·rintro ⟨h7, h8⟩; exact ⟨⟨c1, c2, h6.1 hr2, h7⟩, h8⟩
      ·rintro ⟨⟨_, _, _, h7⟩, h8⟩; exact ⟨h7, h8⟩
theorem valid27_ex (n : Int) (g : List Hd) (hs : ∀ h ∈ g, h.f1.length ≤ 4096) : ∃ k r, antiquaryref27_Valid.f k n g = some r ∧ (r = true ↔ ValidG n g) := by
 unfold ValidG
 by_cases c1 : n < 1
 ·refine ⟨1, false, ?_, ⟨fun h => by (cases h), fun h => by omega⟩⟩
  unfold antiquaryref27_Valid.f; rw [if_pos c1]; rfl
 ·by_cases c2 : n > 4096
  ·refine ⟨1, false, ?_, ⟨fun h => by (cases h), fun h => by omega⟩⟩
   unfold antiquaryref27_Valid.f; rw [if_neg c1, if_pos c2]; rfl
  ·by_cases c3 : (g.length : Int) = n
   ·obtain ⟨k, r, h1, h2⟩ := v27_l0 g hs (by omega) n c3 g.length 0 (by omega)
    refine ⟨k + 1, r, ?_, ?_⟩
    ·unfold antiquaryref27_Valid.f
     rw [if_neg c1, if_neg c2]
     have e : ((g.length : Int) != n) = false := by simp [c3]
     rw [e]
     show (if false = true then some false else antiquaryref27_Valid.l0 k n 0 g) = some r
     rw [if_neg (by simp)]
     exact h1
    ·rw [h2]
     exact ⟨fun h => ⟨by omega, by omega, c3, fun j hj => h j (Nat.zero_le _) hj⟩, fun h j _ hj => h.2.2.2 j hj⟩
   ·refine ⟨1, false, ?_, ⟨fun h => by (cases h), fun h => absurd h.2.2.1 c3⟩⟩
    unfold antiquaryref27_Valid.f; rw [if_neg c1, if_neg c2]
    have e : ((g.length : Int) != n) = true := by simp [c3]
    rw [e]; rfl
def graph_Check.T7 : Bool × List (List Nat × List Nat) := (true, [([], []), ([0], [0]), ([], []), ([], []), ([], []), ([3, 4], [3, 4]), ([5], [5]), ([2, 6], [2, 6]), ([], []), ([8], [8]), ([7, 9, 7], [7, 9]), ([1, 10, 10], [1, 10]), ([11], [11])])
def graph_Check.B7 : List Nat := [0, 1, 0, 0, 0, 24, 56, 124, 0, 256, 1020, 2047, 4095]
theorem graph_Check.tab7 : rtab .any (opsOf Tryz.f20 7) = graph_Check.T7 := by kernel_rfl
theorem graph_Check.bits7 : waitsOk graph_Check.T7.2 graph_Check.B7 = true := by kernel_rfl
def graph_Covers.f (a0 : Int) (a1 : Int) (a2 : Int) (a3 : Int) : Option (Bool) := (metric_High.f a0 a1 a2).bind fun t273 => (some (decide (t273 ≤ a3)))
set_option maxHeartbeats 8000000 in
set_option maxRecDepth 100000 in
theorem graph_Covers.calls (a0 : Int) (a1 : Int) (a2 : Int) (a3 : Int) (r : Bool) (w : World) (h : graph_Covers.f a0 a1 a2 a3 = some r) :
  Calls Tryz.prog 17 #[.int .i64 a0, .int .i64 a1, .int .i64 a2, .int .i64 a3] w fun e w' => e = .returned (.bool r) ∧ Below w.heap.size w w' := by
 have HB := Aside0.mk (Below.refl w.heap.size w)
 have H : ((metric_High.f a0 a1 a2).bind fun t273 => (some (decide (t273 ≤ a3)))) = some r := h
 clear h
 replace H := Option.bind_eq_some_iff.mp H
 obtain ⟨t273, A50, H⟩ := H
 replace H : (some (decide (t273 ≤ a3))) = some r := H
 have A5 := Aside0.mk A50
 clear A50
 obtain rfl := Option.some.inj H
 go_enter Tryz.func17, Tryz.ntmps17
 go_wp2_with (first | ((with_reducible refine gate_callee (f := 40) rfl ?_); refine goesL_ (some 12) rfl rfl Tryz.func40 (by kernel_rfl) rfl #[.int .i64 a0, .int .i64 a1, .int .i64 a2] rfl (by (try simp only [List.map_toArray, List.map_cons, List.map_nil]); first | done | rfl | (simp only [List.length_drop, List.length_take]; rfl)) ?_; (with_reducible refine (metric_High.calls a0 a1 a2 t273 _ A5.out).mono ?_); rintro e w6 ⟨rfl, hb⟩; refine ⟨_, rfl, ?_⟩; have n0_ := Aside0.mk (below_step (by repeat (first | (with_reducible first | exact HB.out | apply below_alloc | apply pw_below_drewN | apply below_drew1) | exact HB.out)) hb); clear HB; have HB := n0_; clear n0_; (try clear hb); (try clear hb2); (try clear hk); (try clear hi)))
 go_ret
 exact ⟨by first | rfl | (simp [errW_none, errW_some] <;> rfl) | (simp [*, errW_none, errW_some] <;> rfl), by repeat (first | (with_reducible first | exact HB.out | apply below_alloc | apply pw_below_drewN | apply below_drew1) | exact HB.out)⟩
theorem right27_ex (m : Int) (l : List (List Int)) (hl : fewL l) (g : List Hd) (hs : ∀ h ∈ g, h.f1.length ≤ 4096) : ∃ k r, antiquaryref27_Right.f k m l g = some r ∧ (r = true ↔ rightF m l = true ∧ ValidG l.length g) := by
 obtain ⟨k1, r1, h1, h2⟩ := fit_ex l hl
 obtain ⟨k2, r2, h3, h4⟩ := valid27_ex l.length g hs
 rw [right_iff_fit]
 by_cases c : 1 ≤ m ∧ m ≤ 3
 ·cases hr1 : r1 with
  | true =>
   refine ⟨k1 + k2, r2, ?_, ?_⟩
   ·unfold antiquaryref27_Right.f
    rw [metric09, Option.bind_some, decide_eq_true c, if_pos rfl, up_le (antiquaryref09_Fit.mono _) h1 (show k1 ≤ k1 + k2 by omega), Option.bind_some, hr1, if_pos rfl, up_le (antiquaryref27_Valid.mono _ _) h3 (show k2 ≤ k1 + k2 by omega)]; rfl
   ·rw [h4]; exact ⟨fun h => ⟨⟨c, h2.1 hr1⟩, h⟩, fun h => h.2⟩
  | false =>
   refine ⟨k1, false, ?_, ⟨fun h => (by cases h), fun h => by have := h2.2 h.1.2; rw [hr1] at this; cases this⟩⟩
   unfold antiquaryref27_Right.f
   rw [metric09, Option.bind_some, decide_eq_true c, if_pos rfl, h1, Option.bind_some, hr1, if_neg (by simp)]
 ·refine ⟨0, false, ?_, ⟨fun h => (by cases h), fun h => absurd h.1.1 c⟩⟩
  unfold antiquaryref27_Right.f
  rw [metric09, Option.bind_some, decide_eq_false c, if_neg (by simp)]
theorem alike04_ex (a b : List Int) (ha : a.length ≤ 9223372036854775807) (hb : b.length ≤ 9223372036854775807) : ∃ k, ∀ k', k ≤ k' → antiquaryref04_Alike.f k' a b = some (alikeF a b) := by
 obtain ⟨k1, h1⟩ := valid04_ex a ha
 obtain ⟨k2, h2⟩ := valid04_ex b hb
 refine ⟨k1 + k2, fun k' hk' => ?_⟩
 unfold antiquaryref04_Alike.f
 rw [up_le (antiquaryref04_Valid.mono _) h1 (show k1 ≤ k' by omega), Option.bind_some]
 cases c1 : validV a with
 | false =>
  rw [if_neg (by simp)]
  congr 1; symm; rw [← Bool.not_eq_true, alikeF_iff, c1]; simp
 | true =>
  rw [if_pos rfl, up_le (antiquaryref04_Valid.mono _) h2 (show k2 ≤ k' by omega), Option.bind_some]
  cases c2 : validV b with
  | false =>
   rw [if_neg (by simp)]
   congr 1; symm; rw [← Bool.not_eq_true, alikeF_iff, c2]; simp
  | true =>
   rw [if_pos rfl]
   congr 1
   rw [Bool.eq_iff_iff, alikeF_iff, c1, c2, beq_int_nat, decide_eq_true_eq]; simp
theorem foldMin_le {F : Int → Int → Int} (hS : Go.Sort.SWO (ltF F)) (r : List Int) : ∀ x, (∀ y ∈ x :: r, ltF F y (r.foldl (stepMin F) x) = false) := by
 induction r with
 | nil => intro x y hy; simp at hy; subst hy; exact hS.irrefl y
 | cons z r ih =>
  intro x y hy
  rw [List.foldl_cons]
  have hz : ltF F x (stepMin F x z) = false ∧ ltF F z (stepMin F x z) = false := by
   unfold stepMin
   by_cases c : F z x < 0
   ·rw [if_pos c]
    have : ltF F z x = true := decide_eq_true c
    exact ⟨hS.asym this, hS.irrefl z⟩
   ·rw [if_neg c]
    exact ⟨hS.irrefl x, decide_eq_false c⟩
  have hm := ih (stepMin F x z) (stepMin F x z) (by simp)
  rcases List.mem_cons.1 hy with rfl | hy
  ·exact hS.ntrans _ _ _ hz.1 hm
  ·rcases List.mem_cons.1 hy with rfl | hy
   ·exact hS.ntrans _ _ _ hz.2 hm
   ·exact ih (stepMin F x z) y (by simp [hy])
theorem minF_le {F : Int → Int → Int} (hS : Go.Sort.SWO (ltF F)) (xs : List Int) : ∀ y ∈ xs, ltF F y (minF F xs) = false := by
 cases xs with
 | nil => intro y hy; simp at hy
 | cons x r => exact foldMin_le hS r x
theorem keysV_bd {m : Int} {l : List (List Int)} {v : List Int} (h : ∀ x ∈ l, alikeF x v = true) : ∀ y ∈ keysV m l v, 0 ≤ y ∧ y ≤ 134217728 := by
 intro y hy
 unfold keysV at hy
 obtain ⟨x, hx, rfl⟩ := List.mem_map.1 hy
 exact keyV_bd m _ _ (h x hx)
theorem hiOk_of {m : Int} {xs ys : List Int} (hx : ∀ y ∈ xs, 0 ≤ y ∧ y ≤ 134217728) (hy : ∀ y ∈ ys, 0 ≤ y ∧ y ≤ 134217728) : hiOk m xs ys = true := by
 unfold hiOk
 rw [List.all_eq_true]
 intro x h1
 rw [List.all_eq_true]
 intro y h2
 obtain ⟨s, _, _, _, h⟩ := high_ex m (hx x h1).1 (hx x h1).2 (hy y h2).1 (hy y h2).2
 rw [h]; rfl
theorem alike_all {m : Int} {l : List (List Int)} {v : List Int} (hr : rightF m l = true) (ha : alikeF (rdL l 0) v = true) : ∀ x ∈ l, alikeF x v = true := by
 intro x hx
 obtain ⟨_, _, hall⟩ := rightF_iff.1 hr
 exact alike_trans (hall x hx) ha
theorem shortB_mk {g : List Hd} (h : ∀ x ∈ g, x.f1.length ≤ 4096) : shortB g = true := by
 unfold shortB
 rw [List.all_eq_true]
 exact fun x hx => decide_eq_true (h x hx)
theorem ordV_perm (ks xs : List Int) : (ordV ks xs).Perm xs := List.mergeSort_perm _ _
theorem ordV_length (ks xs : List Int) : (ordV ks xs).length = xs.length := (ordV_perm ks xs).length_eq
theorem ordV_asc (ks xs : List Int) : (ordV ks xs).Pairwise fun a b => leK ks a b := by
 have h := List.pairwise_mergeSort (le := fun x y => !ltF (orderF ks) y x) (fun a b c h1 h2 => by
  simp only [Bool.not_eq_true'] at *
  exact (order_swo ks).ntrans c b a h2 h1) (fun a b => by
  by_cases c : leK ks a b
  ·have := leK_ltF.1 c
   simp [this]
  ·have : ltF (orderF ks) a b = false := leK_ltF.1 (by unfold leK at *; omega)
   simp [this]) xs
 refine h.imp fun {a b} hab => ?_
 simp only [Bool.not_eq_true'] at hab
 exact leK_ltF.2 hab
theorem ordV_head (ks xs : List Int) (h : 1 ≤ xs.length) : rd (ordV ks xs) 0 = minF (orderF ks) xs := by
 have hl := ordV_length ks xs
 have hp := ordV_perm ks xs
 have ha := ordV_asc ks xs
 have hm := minF_mem (orderF ks) xs h
 generalize ordV ks xs = o at hl hp ha ⊢
 cases o with
 | nil => simp at hl; omega
 | cons x r =>
  have e0 : rd (x :: r) 0 = x := by simp [rd]
  rw [e0]
  have h1 := minF_le (order_swo ks) xs x (hp.mem_iff.1 (by simp))
  have h2 : ltF (orderF ks) (minF (orderF ks) xs) x = false := by
   rcases List.mem_cons.1 (hp.mem_iff.2 hm) with e | e
   ·rw [e]; exact (order_swo ks).irrefl x
   ·exact leK_ltF.1 ((List.pairwise_cons.1 ha).1 _ e)
  exact order_tri ks _ _ h1 h2
theorem rd_last (pre : List Int) (a : Int) (h : pre.length ≤ 1000000) : wrap64 (((pre ++ [a]).length : Int) - 1) = (pre.length : Int) ∧ rd (pre ++ [a]) (pre.length : Int) = a := by
 constructor
 ·rw [w64 (by simp; omega)]; simp <;> omega
 ·rw [rd_natE]; simp
theorem refWalk_l0 (m : Int) (hm : 1 ≤ m ∧ m ≤ 3) (l : List (List Int)) (v : List Int) (hal : ∀ x ∈ l, alikeF x v = true) (hl : l.length ≤ 4096) {g : List Hd} (hg : GoodG l.length g) : ∀ (c : Nat) (a : Int) (pre : List Int), 0 ≤ a → a < (l.length : Int) → cntL (keysV m l v) a ≤ c → pre.length + c ≤ 5000 →
  ∃ K, antiquaryref27_Walk.l0 K m l v (pre ++ [a]) g = some (pre ++ walkV (keysV m l v) g a, 0, false, 0) := by
 have hkl := keysV_length m l v
 have hgl := hg.1
 intro c
 induction c with
 | zero =>
  intro a pre h0 h1 hc hp
  have hn := nextV_in hg hkl a h0 (by exact_mod_cast h1)
  have hle : rd (keysV m l v) a ≤ rd (keysV m l v) (nextV (keysV m l v) g a) := by
   apply Decidable.byContradiction
   intro h
   have := cntL_lt (keysV m l v) a _ hn.1 (by omega) (by omega : rd (keysV m l v) (nextV (keysV m l v) g a) < rd (keysV m l v) a)
   omega
  obtain ⟨hs1, hs2, hs3⟩ := hg.2 _ (rd_T_mem (g := g) h0 (by omega))
  obtain ⟨k1, q1⟩ := order_ex m hm l v hal hl _ (Nat.le_trans hs2 hl) hs3
  obtain ⟨ka, ha⟩ := key04_ex m hm (rdL l (nextV (keysV m l v) g a)) v (hal _ (rdL_mem hn.1 hn.2))
  obtain ⟨kb, hb⟩ := key04_ex m hm (rdL l a) v (hal _ (rdL_mem h0 h1))
  obtain ⟨e1, e2⟩ := rd_last pre a (by omega)
  have E1 := Aside0.mk e1
  have hd : rd (ordV (keysV m l v) (rd_T61 g a).f1) 0 = nextV (keysV m l v) g a := ordV_head _ _ hs1
  have hol := ordV_length (keysV m l v) (rd_T61 g a).f1
  refine ⟨k1 + ka + kb + 1, ?_⟩
  clear e1
  rw [antiquaryref27_Walk.l0, E1.out, if_pos (by omega), if_pos (by simp; omega), e2, if_pos h0, if_pos (by omega), up_le (antiquaryref27_Order.mono _ _ _ _) q1 (show k1 ≤ k1 + ka + kb by omega), Option.bind_some, if_pos (by omega), hd, if_pos hn.1, if_pos hn.2, rd_L1_eq, up_le (antiquaryref04_Key.mono _ _ _) ha (show ka ≤ k1 + ka + kb by omega), Option.bind_some, if_pos h1, rd_L1_eq, up_le (antiquaryref04_Key.mono _ _ _) hb (show kb ≤ k1 + ka + kb by omega), Option.bind_some, ← rd_keysV m l v _ hn.1 hn.2, ← rd_keysV m l v _ h0 h1, if_pos hle, walkV_end hle]
 | succ c ih =>
  intro a pre h0 h1 hc hp
  have hn := nextV_in hg hkl a h0 (by exact_mod_cast h1)
  obtain ⟨hs1, hs2, hs3⟩ := hg.2 _ (rd_T_mem (g := g) h0 (by omega))
  obtain ⟨k1, q1⟩ := order_ex m hm l v hal hl _ (Nat.le_trans hs2 hl) hs3
  obtain ⟨ka, ha⟩ := key04_ex m hm (rdL l (nextV (keysV m l v) g a)) v (hal _ (rdL_mem hn.1 hn.2))
  obtain ⟨kb, hb⟩ := key04_ex m hm (rdL l a) v (hal _ (rdL_mem h0 h1))
  obtain ⟨e1, e2⟩ := rd_last pre a (by omega)
  have E1 := Aside0.mk e1
  have hd : rd (ordV (keysV m l v) (rd_T61 g a).f1) 0 = nextV (keysV m l v) g a := ordV_head _ _ hs1
  have hol := ordV_length (keysV m l v) (rd_T61 g a).f1
  clear e1
  have hexp : ∀ K, k1 ≤ K → ka ≤ K → kb ≤ K → antiquaryref27_Walk.l0 (K + 1) m l v (pre ++ [a]) g = if rd (keysV m l v) (nextV (keysV m l v) g a) ≥ rd (keysV m l v) a then some (pre ++ [a], 0, false, 0) else antiquaryref27_Walk.l0 K m l v (pre ++ [a] ++ [nextV (keysV m l v) g a]) g := by
   intro K h1' h2' h3'
   rw [antiquaryref27_Walk.l0, E1.out, if_pos (by omega), if_pos (by simp; omega), e2, if_pos h0, if_pos (by omega), up_le (antiquaryref27_Order.mono _ _ _ _) q1 h1', Option.bind_some, if_pos (by omega), hd, if_pos hn.1, if_pos hn.2, rd_L1_eq, up_le (antiquaryref04_Key.mono _ _ _) ha h2', Option.bind_some, if_pos h1, rd_L1_eq, up_le (antiquaryref04_Key.mono _ _ _) hb h3', Option.bind_some, ← rd_keysV m l v _ hn.1 hn.2, ← rd_keysV m l v _ h0 h1, if_pos (show (pre ++ [a]).length < 17592186044416 by simp; omega)]
  by_cases hle : rd (keysV m l v) (nextV (keysV m l v) g a) ≥ rd (keysV m l v) a
  ·refine ⟨k1 + ka + kb + 1, ?_⟩
   rw [hexp _ (by omega) (by omega) (by omega), if_pos hle, walkV_end hle]
  ·have hlt := cntL_lt (keysV m l v) a _ hn.1 (by omega) (by omega : rd (keysV m l v) (nextV (keysV m l v) g a) < rd (keysV m l v) a)
   obtain ⟨K, hK⟩ := ih (nextV (keysV m l v) g a) (pre ++ [a]) hn.1 hn.2 (by omega) (by simp; omega)
   refine ⟨K + k1 + ka + kb + 1, ?_⟩
   rw [hexp _ (by omega) (by omega) (by omega), if_neg hle, walkV_go (by omega) ⟨hn.1, by omega⟩]
   have := up_le (f := fun k => antiquaryref27_Walk.l0 k m l v (pre ++ [a] ++ [nextV (keysV m l v) g a]) g) (fun k => antiquaryref27_Walk.mono_l k _ _ _ _ _) hK (show K ≤ K + k1 + ka + kb by omega)
   rw [this, List.append_assoc]; rfl
end Go.Proofs.YthbkomkgciemiaaGreat.PKF
