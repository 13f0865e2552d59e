/- GraphBuildsAsSpecified: for at most 25 lists of at most 40 numbers, whether they fit or not, a graph of at most 30 neighbourhoods, and numbers, whatever they are: Valid, Build and Check return what the specification returns. Condition: none. -/
import Derived.Test.YthbkomkgciemiaaGreatCB11
import Derived.Deep.Matrix
import Derived.Deep.SlicePairs
import Derived.OpenShut
import Derived.Test.YthbkomkgciemiaaGreatRows
import Derived.WalkKit
import Derived.ProofKit
import Derived.ShutString
import Derived.ChangeOld
import Derived.Below
import Derived.SizedLaws
/- GraphBuildsAsSpecified: its code returns true for whatever is read. -/
namespace Go.Proofs.YthbkomkgciemiaaGreat.PKB
open Go.Proofs.YthbkomkgciemiaaGreat.RF
open Go.RowKit Go.Proofs.YthbkomkgciemiaaGreatW.PrintWords Go.Proofs.YthbkomkgciemiaaGreatW.PrintLast Go.Proofs.YthbkomkgciemiaaGreatW.PrintMore
attribute [local go_sem] max2_int min2_int max_two min_two max_three min_three max_four min_four
set_option linter.unusedVariables false
set_option linter.unusedSimpArgs false
theorem build_l0 (m : Int) (hm : 1 ≤ m ∧ m ≤ 3) (l : List (List Int)) (hal : ∀ x ∈ l, ∀ v ∈ l, alikeF x v = true) (hl : l.length ≤ 4096) (want : Int) (hw : 1 ≤ want) (d : Nat) : ∀ i : Nat, i + d = l.length →
    ∃ k, antiquaryref27_Build.l0 k m l want i (hoodsV m l want i) = some (hoodsV m l want l.length, 0) := by
  induction d with
  | zero =>
    intro i hi
    refine ⟨1, ?_⟩
    unfold antiquaryref27_Build.l0; rw [if_neg (by omega), show i = l.length by omega]
  | succ d ih =>
    intro i hi
    obtain ⟨k0, h0⟩ := ih (i + 1) (by omega)
    rw [hoodsV_succ m l want i (by omega)] at h0
    have hmem : rdL l i ∈ l := rdL_mem (by omega) (by omega)
    have hj1 : 0 ≤ mn want l.length - 1 ∧ mn want l.length - 1 < (l.length : Int) := by unfold mn; split <;> omega
    have hkl := keysV_length m l (rdL l i)
    have hx : rd (sortI (keysV m l (rdL l i))) (mn want l.length - 1) ≤ 134217728 := by
      have hm1 := rd_mem (l := sortI (keysV m l (rdL l i))) (i := mn want l.length - 1) hj1.1 (by rw [sortI_length]; omega)
      have hm2 := (sortI_perm _).mem_iff.1 hm1
      obtain ⟨q, hq, e⟩ := mem_iff_rd.1 hm2
      rw [← e, rd_keysV m l (rdL l i) q (by omega) (by omega)]
      exact (keyV_bd m _ _ (hal _ (rdL_mem (by omega) (by omega)) _ hmem)).2
    have hle := hoodsV_length m l want i
    obtain ⟨k, h⟩ := build_l1 m hm l hal hl want hw i (by omega) (hoodsV m l want i) (by omega) _ k0 h0 l.length 0 134217728 (by omega) hx (fun q hq => by omega)
    refine ⟨k + 1, ?_⟩
    unfold antiquaryref27_Build.l0
    rw [if_pos (by omega)]
    exact h
theorem build_agree (m : Int) (l : List (List Int)) (hl : fewL l) (want : Int) : ∃ gs e, graph_Build.f m l want = some (gs, e) ∧ (∃ k, antiquaryref27_Build.f k m l want = some (gs, e)) ∧ gs.length ≤ 4096 ∧ ∀ h ∈ gs, h.f1.length ≤ 4096 := by
  obtain ⟨k1, r1, h1, h2⟩ := fit_ex l hl
  by_cases c : 1 ≤ m ∧ m ≤ 3
  · cases hr : r1 with
    | false =>
      have hno : ¬ (rightF m l = true ∧ 1 ≤ want ∧ want ≤ 4096) := fun h => by have := h2.2 (right_iff_fit.1 h.1).2; rw [hr] at this; cases this
      refine ⟨[], 1, by unfold graph_Build.f; rw [if_neg hno], ⟨k1 + 1, ?_⟩, by simp, by simp⟩
      unfold antiquaryref27_Build.f
      rw [metric09, Option.bind_some, decide_eq_true c, if_pos rfl, up_le (antiquaryref09_Fit.mono _) h1 (show k1 ≤ k1 + 1 by omega), Option.bind_some, hr, if_neg (by simp)]; rfl
    | true =>
      have hfit := h2.1 hr
      have hright : rightF m l = true := right_iff_fit.2 ⟨c, hfit⟩
      by_cases c1 : want < 1
      · refine ⟨[], 1, by unfold graph_Build.f; rw [if_neg (by omega)], ⟨k1 + 1, ?_⟩, by simp, by simp⟩
        unfold antiquaryref27_Build.f
        rw [metric09, Option.bind_some, decide_eq_true c, if_pos rfl, up_le (antiquaryref09_Fit.mono _) h1 (show k1 ≤ k1 + 1 by omega), Option.bind_some, hr, if_pos rfl, if_pos c1]; rfl
      · by_cases c2 : want > 4096
        · refine ⟨[], 1, by unfold graph_Build.f; rw [if_neg (by omega)], ⟨k1 + 1, ?_⟩, by simp, by simp⟩
          unfold antiquaryref27_Build.f
          rw [metric09, Option.bind_some, decide_eq_true c, if_pos rfl, up_le (antiquaryref09_Fit.mono _) h1 (show k1 ≤ k1 + 1 by omega), Option.bind_some, hr, if_pos rfl, if_neg c1, decide_eq_true c2]; rfl
        · obtain ⟨_, ⟨hl1, hl2⟩, hall⟩ := rightF_iff.1 hright
          obtain ⟨k, h⟩ := build_l0 m c l (fun x hx v hv => alike_trans (hall x hx) (hall v hv)) hl2 want (by omega) l.length 0 (by omega)
          refine ⟨hoodsV m l want l.length, 0, by unfold graph_Build.f; rw [if_pos ⟨hright, by omega, by omega⟩], ⟨k + k1 + 1, ?_⟩, ?_, ?_⟩
          · unfold antiquaryref27_Build.f
            rw [metric09, Option.bind_some, decide_eq_true c, if_pos rfl, up_le (antiquaryref09_Fit.mono _) h1 (show k1 ≤ k + k1 + 1 by omega), Option.bind_some, hr, if_pos rfl, if_neg c1, decide_eq_false c2]
            show (if false = true then (some (([] : List Hd), 1) : Option (List Hd × Int)) else antiquaryref27_Build.l0 (k + k1) m l want 0 []) = _
            rw [if_neg (by simp)]
            exact up_le (f := fun k => antiquaryref27_Build.l0 k m l want 0 (hoodsV m l want 0)) (fun k => (antiquaryref27_Build.mono_l k).2.1 _ _ _ _ _) h (show k ≤ k + k1 by omega)
          · have := hoodsV_length m l want l.length; omega
          · intro x hx
            unfold hoodsV at hx
            obtain ⟨v, hv, rfl⟩ := List.mem_map.1 hx
            have := aroundTo_length (keysV m l v) (rd (sortI (keysV m l v)) (mn want l.length - 1)) (keysV m l v).length
            have hkl := keysV_length m l v
            show (aroundV _ _).length ≤ 4096
            unfold aroundV; omega
  · have hno : ¬ (rightF m l = true ∧ 1 ≤ want ∧ want ≤ 4096) := fun h => c (right_iff_fit.1 h.1).1
    refine ⟨[], 1, by unfold graph_Build.f; rw [if_neg hno], ⟨1, ?_⟩, by simp, by simp⟩
    unfold antiquaryref27_Build.f
    rw [metric09, Option.bind_some, decide_eq_false c, if_neg (by simp)]; rfl
theorem agree (m : Int) (l : List (List Int)) (want n : Int) (g : List Hd) (hl : fewL l) (hg : fewG g) : Agree m l want n g := by
  have hs : ∀ h ∈ g, h.f1.length ≤ 4096 := fun h hh => Nat.le_trans (hg.2 h hh) (by omega)
  obtain ⟨gs, e, h1, h2, h3, h4⟩ := build_agree m l hl want
  obtain ⟨i, f, h5, h6⟩ := check_agree m l hl g hs
  obtain ⟨b, h7, h8, _⟩ := valid_agree n g hs
  exact ⟨gs, e, i, f, b, h1, h2, h5, h6, sameG_ex gs h3 h4, h7, h8⟩
/-- The law's code returns true, for whatever is read. -/
theorem lawAll (m : Int) (A1 : Option Addr) (c1 : Nat) (l : List (List Int)) (want n : Int) (A2 : Option Addr) (c2 : Nat) (g : List Hd) (w : World) (hr1 : Kd.C (Kd.slice 3 (Kd.int .i64)) w A1 l.length l) (hc1 : l.length ≤ c1) (hr2 : Kd.C k61 w A2 g.length g) (hc2 : g.length ≤ c2) :
    Calls Tryz.prog 4 #[.int .i64 m, .slice A1 l.length c1, .int .i64 want, .int .i64 n, .agg #[.slice A2 g.length c2]] w fun e w' => e = .returned (.bool true) ∧ Below w.heap.size w w' := by
  obtain ⟨k, r, h1, h2⟩ := few09_ex l
  obtain ⟨k', r', h3, h4⟩ := few27_ex g
  refine lawC m A1 c1 l want n A2 c2 g w hr1 hc1 hr2 hc2 ⟨k, r, h1⟩ ⟨k', r', h3⟩ (fun q q' hq hq' => ?_)
  have e1 := same_of (antiquaryref09_Few.mono _ _) h1 hq
  have e2 := same_of (antiquaryref27_Few.mono _) h3 hq'
  exact agree m l want n g (h2 e1) (h4 e2)
end Go.Proofs.YthbkomkgciemiaaGreat.PKB
/- What comes in, opened: a list of lists of numbers; the neighbourhoods of a graph. -/
namespace Go.Proofs.YthbkomkgciemiaaGreat.PKB
open Go.Proofs.YthbkomkgciemiaaGreat.RF
open Go.RowKit Go.Proofs.YthbkomkgciemiaaGreatW.PrintWords Go.Proofs.YthbkomkgciemiaaGreatW.PrintLast Go.Proofs.YthbkomkgciemiaaGreatW.PrintMore
attribute [local go_sem] max2_int min2_int max_two min_two max_three min_three max_four min_four
set_option linter.unusedVariables false
set_option linter.unusedSimpArgs false
open Go.ChangeShapes Go.WideShapes Go.RowKit Go.Deep
variable {H : Type} {enc : TypeId × Value → H} {w : World} {held : Bool}
theorem maxLen_le : maxLen ≤ 9223372036854775807 := by decide
theorem open_rows {fuel : Nat} {cs : List Value} {x : DataW H × List MemPlace} (h : DataW.trod enc Tryz.prog w 0 (fun _ => true) held fuel 22 cs = some x) :
    ∃ (l : List (List Int)) (A : Option Addr) (c : Nat), cs = [.slice A l.length c] ∧ l.length ≤ c ∧ Kd.C (Kd.slice 3 (Kd.int .i64)) w A l.length l := by
  rcases open_int_rows Tryz.underlying22 Tryz.underlying26 Tryz.underlying3 (by kernel_rfl) (by kernel_rfl) h with ⟨h0, _⟩ | ⟨a, len, cap, A, L, C, Z, rfl, hb, hl, hm, _, hr⟩
  · exact ⟨[], none, 0, h0, Nat.le_refl _, Kd.C_nil _ _⟩
  · refine ⟨(List.range len).map fun r => (Z r).take (L r), some a, cap, by simp, by simpa using hl, ⟨by simp, by simp; have := maxLen_le; omega, fun _ => ⟨a, rfl, fun j p hj => ?_⟩⟩⟩
    simp only [List.getElem?_map, Option.map_eq_some_iff] at hj
    obtain ⟨q, hq, rfl⟩ := hj
    rw [List.getElem?_eq_some_iff] at hq
    obtain ⟨hq1, hq2⟩ := hq
    simp at hq1 hq2
    subst hq2
    obtain ⟨h1, h2, h3, h4, _, h6, h7⟩ := hr j (by omega)
    have hzl : ((Z j).take (L j)).length = L j := by simp; omega
    refine ⟨[.slice (A j) ((Z j).take (L j)).length (C j)], rfl, ⟨A j, C j, rfl, by rw [hzl]; exact h2, ?_⟩, fun i u hu => ?_⟩
    · refine Kd.C_of_reads (d := (0 : Int)) ⟨rfl, by rw [hzl]; have := maxLen_le; omega, fun hp => ?_⟩
      rw [hzl] at hp
      cases hA : A j with
      | none => have := h6 hA; omega
      | some a' =>
        refine ⟨a', rfl, fun i hi => ?_⟩
        rw [hzl] at hi
        rw [(h7 a' hA).2 i (by omega)]
        congr 2
        simp [List.getD, List.getElem?_take_of_lt hi]
    · have hi0 : i = 0 := by
        have := (List.getElem?_eq_some_iff.1 hu).1
        simp at this; exact this
      subst hi0
      simp at hu
      subst hu
      show w.cell? (a.add (j * 1 + 0)) = _
      rw [Nat.mul_one, Nat.add_zero, h1]
      congr 2
      first | exact hzl.symm | (simp; omega) | omega
theorem open_hoods {fuel : Nat} {cs : List Value} {x : DataW H × List MemPlace} (h : DataW.trod enc Tryz.prog w 0 (fun _ => true) held fuel 23 cs = some x) :
    ∃ (g : List Hd) (A : Option Addr) (c : Nat), cs = [.slice A g.length c] ∧ g.length ≤ c ∧ Kd.C k61 w A g.length g := by
  rcases open_slice_pairs Tryz.underlying23 Tryz.underlying61 (by kernel_rfl) rfl rfl (by kernel_rfl) (by kernel_rfl) h with ⟨h0, _⟩ | ⟨a, len, cap, m, n, V0, V1, D0, D1, P0, P1, rfl, hb, hl, hm, hmm, _, hr⟩
  · exact ⟨[], none, 0, h0, Nat.le_refl _, Kd.C_nil _ _⟩
  · simp only [if_true] at hmm
    have each : ∀ i, i < len → ∃ y : Hd × Option Addr × Nat, V0 i = .int .i64 y.1.f0 ∧ V1 i = .slice y.2.1 y.1.f1.length y.2.2 ∧ y.1.f1.length ≤ y.2.2 ∧ Kd.C (Kd.int .i64) w y.2.1 y.1.f1.length y.1.f1 := by
      intro i hi
      obtain ⟨_, _, t0, t1⟩ := hr i (by omega)
      obtain ⟨n0, e0, _, _⟩ := DataW.trod_int Tryz.underlying3 t0
      have e0' : V0 i = .int .i64 n0 := by simpa using e0
      rcases open_ints Tryz.underlying26 Tryz.underlying3 (by kernel_rfl) t1 with ⟨hn, _⟩ | ⟨a', l', c', zs, hn, _, hl', hm', hz', _, hcell, _⟩
      · exact ⟨(⟨n0, []⟩, none, 0), e0', by simpa using hn, Nat.le_refl _, Kd.C_nil _ _⟩
      · simp only [if_true] at hz'
        have hzl : (zs.take l').length = l' := by simp; omega
        have hn' : V1 i = .slice (some a') l' c' := by simpa using hn
        refine ⟨(⟨n0, zs.take l'⟩, some a', c'), e0', by rw [hn']; congr 1; exact hzl.symm, by show (zs.take l').length ≤ c'; rw [hzl]; exact hl', ?_⟩
        refine Kd.C_of_reads (d := (0 : Int)) ⟨rfl, by show (zs.take l').length ≤ _; rw [hzl]; have := maxLen_le; omega, fun hp => ⟨a', rfl, fun q hq => ?_⟩⟩
        have hq' : q < l' := by rw [← hzl]; exact hq
        rw [hcell q (by omega)]
        congr 2
        simp [List.getD, List.getElem?_take_of_lt hq']
    have hY : ∃ Y : Nat → Hd × Option Addr × Nat, ∀ i, i < len → V0 i = .int .i64 (Y i).1.f0 ∧ V1 i = .slice (Y i).2.1 (Y i).1.f1.length (Y i).2.2 ∧ (Y i).1.f1.length ≤ (Y i).2.2 ∧ Kd.C (Kd.int .i64) w (Y i).2.1 (Y i).1.f1.length (Y i).1.f1 :=
      ⟨fun i => if hi : i < len then (each i hi).choose else (⟨0, []⟩, none, 0), fun i hi => by simp only [dif_pos hi]; exact (each i hi).choose_spec⟩
    obtain ⟨Y, hY⟩ := hY
    refine ⟨(List.range len).map fun i => (Y i).1, some a, cap, by simp, by simpa using hl, ⟨by simp, by simp; have := maxLen_le; omega, fun _ => ⟨a, rfl, fun j p hj => ?_⟩⟩⟩
    simp only [List.getElem?_map, Option.map_eq_some_iff] at hj
    obtain ⟨q, hq, rfl⟩ := hj
    rw [List.getElem?_eq_some_iff] at hq
    obtain ⟨hq1, hq2⟩ := hq
    simp at hq1 hq2
    subst hq2
    obtain ⟨h1, h2, h3, h4⟩ := hY j hq1
    obtain ⟨c1, c2, _, _⟩ := hr j (by omega)
    refine ⟨[.int .i64 (Y j).1.f0, .slice (Y j).2.1 (Y j).1.f1.length (Y j).2.2], rfl, k61_mk w (Y j).1 h3 h4, fun i u hu => ?_⟩
    match i with
    | 0 =>
      simp at hu; subst hu
      show w.cell? (a.add (j * 2 + 0)) = _
      rw [Nat.add_zero, c1, h1]
    | 1 =>
      simp at hu; subst hu
      show w.cell? (a.add (j * 2 + 1)) = _
      rw [c2, h2]
    | i + 2 => simp at hu
end Go.Proofs.YthbkomkgciemiaaGreat.PKB
namespace Go.Proofs.YthbkomkgciemiaaGreat.graphBuildsAsSpecified
open Go.ChangeShapes Go.WideShapes Go.ChangeAt Go.RowKit
open Go.Proofs.YthbkomkgciemiaaGreat.PKB (open_rows open_hoods lawAll)
set_option linter.unusedVariables false
theorem own : ownKnob Tryz.prog.godebug = none := by kernel_rfl
theorem laidOut : laidOutB Tryz.prog = true := by kernel_rfl
theorem one_cell (cs : Array Value) (h : cs.size = 1) : ∃ c, cs = #[c] := by
  obtain ⟨l⟩ := cs
  match l, h with
  | [c], _ => exact ⟨c, rfl⟩
set_option maxRecDepth 100000 in
theorem cells_graph : Tryz.prog.cellsOf 25 = 1 := by kernel_rfl
set_option maxRecDepth 100000 in
theorem graph_agg {W : World} {base : Nat} {v : Value} (h : Value.okWide Tryz.prog W .any base 25 v) : ∃ c, v = .agg #[c] := by
  obtain ⟨cs, rfl, hs⟩ := okWide_struct Tryz.underlying25 h
  rw [cells_graph] at hs
  obtain ⟨c, rfl⟩ := one_cell cs hs
  exact ⟨c, rfl⟩
set_option maxHeartbeats 400000 in
set_option maxRecDepth 100000 in
theorem lifted (os : Os) (started : os.Started) (H : Type) (enc : TypeId × Value → H) :
    ReturnsInHanded {} Tryz.checked os 4 .any (Rows.graphBuildsAsSpecifiedSpec.pre6 enc Tryz.prog Tryz.f4 Rows.graphBuildsAsSpecifiedRow.domain false) (Rows.graphBuildsAsSpecifiedSpec.post enc Tryz.prog Tryz.f4 false true false false) := by
  refine returnsInHanded_of_change_sized (C := Tryz.checked) own started (by kernel_rfl) Tryz.func4
    (ChangeSpec.witness6 (enc := enc) (C := Tryz.checked) false ⟨#[], #[.int .i64 0, .slice none 0 0, .int .i64 0, .int .i64 0, .agg #[.slice none 0 0]], []⟩ 8 (by kernel_rfl) (by kernel_rfl) (by kernel_rfl) (by kernel_rfl)) ?_
  intro W base args ds gs before hval0 hW hcnd hsz0 _
  have hval : ∀ (j : Nat) t v, Tryz.f4.params[j]? = some t → args[j]? = some v → Value.okWide Tryz.prog W .any base t v := hval0
  have hW' := hW
  obtain ⟨p, q, hA0, hV, rfl, hfz, hnd⟩ := hW
  have hA : DataW.TrodAll enc Tryz.prog W 0 (fun _ => true) true Tryz.f4.params.toList args.toList ds p := hA0
  rw [Tryz.params4] at hA hval
  obtain ⟨v0, vs0, d0, ds0, p0, q0, hargs, rfl, rfl, h0, r0⟩ := trodAll_cons hA
  obtain ⟨v1, vs1, d1, ds1, p1, q1, rfl, rfl, rfl, h1, r1⟩ := trodAll_cons r0
  obtain ⟨v2, vs2, d2, ds2, p2, q2, rfl, rfl, rfl, h2, r2⟩ := trodAll_cons r1
  obtain ⟨v3, vs3, d3, ds3, p3, q3, rfl, rfl, rfl, h3, r3⟩ := trodAll_cons r2
  obtain ⟨v4, vs4, d4, ds4, p4, q4, rfl, rfl, rfl, h4, r4⟩ := trodAll_cons r3
  obtain ⟨rfl, rfl, rfl⟩ := trodAll_nil r4
  obtain rfl : args = #[v0, v1, v2, v3, v4] := by cases args; simp_all
  obtain ⟨rfl, rfl⟩ := trodVars_none hV
  obtain ⟨a0, rfl, rfl, rfl, w0⟩ := open_int Tryz.underlying3 (hval 0 3 v0 rfl rfl) h0
  obtain ⟨a1, len1, cap1, rfl⟩ := okWide_slice Tryz.underlying22 (hval 1 22 v1 rfl rfl)
  have k1 := h1
  have lt1 : ∀ x ∈ p1, x.block < W.heap.size := by obtain ⟨m, hm⟩ := k1; exact DataW.trod_lt m _ _ _ hm
  obtain ⟨a2, rfl, rfl, rfl, w2⟩ := open_int Tryz.underlying3 (hval 2 3 v2 rfl rfl) h2
  obtain ⟨a3, rfl, rfl, rfl, w3⟩ := open_int Tryz.underlying3 (hval 3 3 v3 rfl rfl) h3
  have k4 := h4
  have lt4 : ∀ x ∈ p4, x.block < W.heap.size := by obtain ⟨m, hm⟩ := k4; exact DataW.trod_lt m _ _ _ hm
  have hv4 := hval 4 25 v4 rfl rfl
  obtain ⟨c4, rfl⟩ := graph_agg hv4
  obtain ⟨fu1, hf1⟩ := h1
  obtain ⟨l, A1, c1, hc1, hl1, hC1⟩ := open_rows hf1
  simp [Value.cells] at hc1
  obtain ⟨rfl, rfl, rfl⟩ := hc1
  obtain ⟨fu4, hf4⟩ := h4
  obtain ⟨xs, n4, _, _, _, hxl, hfield⟩ := DataW.trod_struct Tryz.underlying25 hf4
  have hz := hfield 0 _ rfl
  have hxl1 : xs.length = 1 := by rw [hxl]; rfl
  obtain ⟨x0, rfl⟩ : ∃ x, xs = [x] := by
    match xs, hxl1 with
    | [x], _ => exact ⟨x, rfl⟩
  have hce : Tryz.prog.cellsOf 23 = 1 := by kernel_rfl
  have hz' : DataW.trod enc Tryz.prog W 0 (fun _ => true) true n4 23 [c4] = some x0 := by
    have e : (((Value.agg #[c4]).cells.toList.drop 0).take (Tryz.prog.cellsOf 23)) = [c4] := by rw [hce]; rfl
    rw [← e]; exact hz
  obtain ⟨g, A2, c2, hc2, hl2, hC2⟩ := open_hoods hz'
  have hc2' : c4 = .slice A2 g.length c2 := by
    simp at hc2
    exact hc2
  subst hc2'
  clear hA0 hval0 hsz0 hA r0 r1 r2 r3 r4 hz hz' hfield
  refine (lawAll a0 _ _ l a2 a3 _ _ g W hC1 hl1 hC2 hl2).mono fun e W' ⟨he, bel⟩ => ?_
  subst he
  exact ⟨_, rfl, _, _, _, [], _, [], hW', trodAll_mk1 (shut_bool Tryz.underlying4 _), (trodAll_cons_mk (shut_int Tryz.underlying3 w0) (trodAll_cons_mk (Below.trod laidOut (by kernel_rfl) (of_decide_eq_true (by kernel_rfl)) k1 bel lt1) (trodAll_cons_mk (shut_int Tryz.underlying3 w2) (trodAll_cons_mk (shut_int Tryz.underlying3 w3) (trodAll_cons_mk (Below.trod laidOut (by kernel_rfl) (of_decide_eq_true (by kernel_rfl)) k4 bel lt4) trodAll_mk0))))), rfl, bel.frame _, fun h => by cases h⟩
theorem over : Rows.graphBuildsAsSpecifiedRow.holds Tryz.pinned (OpenSpec.ofChange Rows.graphBuildsAsSpecifiedSpec) :=
  OpenClaim.holds_of_wide 4 Tryz.f4 rfl rfl rfl rfl rfl rfl rfl ⟨rfl, rfl, rfl, rfl, rfl⟩ rfl rfl rfl rfl rfl (by kernel_rfl) Tryz.func4 (by kernel_rfl)
    (of_decide_eq_true (by kernel_rfl)) (by unfold Func.isWrapper; first | (rw [if_pos (by decide +kernel)]; kernel_rfl) | (rw [if_neg (by decide +kernel)]; exact ⟨rfl, rfl⟩))
    (fun os started H enc _ => lifted os started H enc)
theorem proved : Rows.GraphBuildsAsSpecifiedSaid := over
#print axioms proved
end Go.Proofs.YthbkomkgciemiaaGreat.graphBuildsAsSpecified
namespace Go.Proofs.YthbkomkgciemiaaGreat
/-- The row, under a short name, for the claim. -/
theorem graphBuildsAsSpecified_holds : Rows.GraphBuildsAsSpecifiedSaid := graphBuildsAsSpecified.proved
end Go.Proofs.YthbkomkgciemiaaGreat
