/- GraphWalksAsSpecified: for at most 25 lists of at most 40 numbers, a graph of at most 30 neighbourhoods, a vector and numbers, whatever they are: Walk, Within and Nearest return what the specification returns; for a metric and keys, so does Covers. Condition: none. -/
import Derived.Test.YthbkomkgciemiaaGreatCA12
import Derived.Test.YthbkomkgciemiaaGreatCA13
import Derived.Test.YthbkomkgciemiaaGreatCA11
import Derived.Test.YthbkomkgciemiaaGreatCA8
import Derived.Test.YthbkomkgciemiaaGreatCA6
import Derived.Test.YthbkomkgciemiaaGreatRows
import Derived.WalkKit
import Derived.ProofKit
import Derived.OpenShut
import Derived.ShutString
import Derived.ChangeOld
import Derived.Below
import Derived.SizedLaws
namespace Go.Proofs.YthbkomkgciemiaaGreat.PKF
open Go.Proofs.YthbkomkgciemiaaGreat.RF
open Go.RowKit Go.Proofs.YthbkomkgciemiaaGreatW.PrintWords Go.Proofs.YthbkomkgciemiaaGreatW.PrintLast Go.Proofs.YthbkomkgciemiaaGreatW.PrintMore
attribute [local go_sem] max2_int min2_int max_two min_two max_three min_three max_four min_four
set_option linter.unusedVariables false
set_option linter.unusedSimpArgs false
theorem asked_ex (m : Int) (l : List (List Int)) (hl : fewL l) (g : List Hd) (hs : ∀ h ∈ g, h.f1.length ≤ 4096) (v : List Int) (hv : v.length ≤ 9223372036854775807) (a : Int) :
  ∃ k r, antiquaryref27_asked.f k m l g v a = some r ∧ (r = true ↔ Asked m l g v a) := by
 obtain ⟨k1, r1, h1, h2⟩ := right27_ex m l hl g hs
 cases r1 with
 | false =>
  refine ⟨k1, false, ?_, ⟨fun h => (by cases h), fun h => (by have := h2.2 ⟨h.1, h.2.1⟩; cases this)⟩⟩
  unfold antiquaryref27_asked.f
  rw [h1, Option.bind_some, if_neg (by simp)]
 | true =>
  obtain ⟨hr, hv1⟩ := h2.1 rfl
  obtain ⟨hm, ⟨hl1, hl2⟩, hall⟩ := rightF_iff.1 hr
  have hl0 : (rdL l 0).length ≤ 40 := hl.2 _ (rdL_mem (by omega) (by omega))
  obtain ⟨k2, al⟩ := alike04_ex (rdL l 0) v (by omega) hv
  have hpre : ∀ K, k1 + k2 ≤ K → antiquaryref27_asked.f K m l g v a = if alikeF (rdL l 0) v = true then (if a ≥ 0 then some (decide (a < (l.length : Int))) else some false) else some false := by
   intro K hK
   unfold antiquaryref27_asked.f
   rw [up_le (antiquaryref27_Right.mono _ _ _) h1 (show k1 ≤ K by omega), Option.bind_some, if_pos rfl, if_pos (by omega), rd_L1_eq, al K (by omega), Option.bind_some]
  refine ⟨k1 + k2, decide (Asked m l g v a), ?_, by simp⟩
  rw [hpre _ (by omega)]
  by_cases c : alikeF (rdL l 0) v = true
  ·rw [if_pos c]
   by_cases d : a ≥ 0
   ·rw [if_pos d]
    congr 1
    exact decide_eq_decide.2 ⟨fun h => ⟨hr, hv1, c, d, h⟩, fun h => h.2.2.2.2⟩
   ·rw [if_neg d, decide_eq_false (fun h => d h.2.2.2.1)]
  ·rw [if_neg c, decide_eq_false (fun h => c h.2.2.1)]
theorem refWalk_ex (m : Int) (l : List (List Int)) (hl : fewL l) (g : List Hd) (hs : ∀ h ∈ g, h.f1.length ≤ 4096) (v : List Int) (hv : v.length ≤ 9223372036854775807) (a : Int) :
  ∃ K, antiquaryref27_Walk.f K m l g v a = some (if Asked m l g v a then (walkV (keysV m l v) g a, 0, false, 0) else ([], 0, false, 1)) := by
 obtain ⟨k1, r1, h1, h2⟩ := asked_ex m l hl g hs v hv a
 cases r1 with
 | false =>
  refine ⟨k1, ?_⟩
  unfold antiquaryref27_Walk.f
  rw [h1, Option.bind_some, if_neg (by simp), if_neg (fun h => by have := h2.2 h; cases this)]
 | true =>
  have h := h2.1 rfl
  obtain ⟨hr, hv1, ha, h0, h1'⟩ := h
  obtain ⟨hm, ⟨hl1, hl2⟩, hall⟩ := rightF_iff.1 hr
  have hkl := keysV_length m l v
  have h25 := hl.1
  have hc : cntL (keysV m l v) a ≤ 25 := by
   unfold cntL
   have := List.length_filter_le (fun x => decide (x < rd (keysV m l v) a)) (keysV m l v)
   omega
  obtain ⟨K, hK⟩ := refWalk_l0 m hm l v (alike_all hr ha) hl2 (good_of_valid hv1) 25 a [] h0 h1' hc (by simp)
  refine ⟨k1 + K, ?_⟩
  unfold antiquaryref27_Walk.f
  rw [up_le (antiquaryref27_asked.mono _ _ _ _ _) h1 (show k1 ≤ k1 + K by omega), Option.bind_some, if_pos rfl, if_pos (h2.1 rfl)]
  have := up_le (f := fun k => antiquaryref27_Walk.l0 k m l v [a] g) (fun k => antiquaryref27_Walk.mono_l k _ _ _ _ _) hK (show K ≤ k1 + K by omega)
  rw [this]; rfl
theorem refWithin_l1 (m : Int) (hm : 1 ≤ m ∧ m ≤ 3) (l : List (List Int)) (v : List Int) (hal : ∀ x ∈ l, alikeF x v = true) (t : Int) (g : List Hd) (s : Int) (hs0 : 0 ≤ s) (hs1 : s < (g.length : Int)) (hin : ∀ x ∈ (rd_T61 g s).f1, 0 ≤ x ∧ x < (l.length : Int)) (hsl : (rd_T61 g s).f1.length ≤ 4096) (d : Nat) : ∀ (i : Nat) (acc : List Int), i + d = (rd_T61 g s).f1.length → acc.length ≤ i →
  ∃ K, antiquaryref27_Within.l1 K m l v t s i g acc s true 0 = some (acc ++ nearF (keysV m l v) t ((rd_T61 g s).f1.drop i), s, true, 0) := by
 obtain ⟨f, hf⟩ : ∃ f, f = (rd_T61 g s).f1 := ⟨_, rfl⟩
 rw [← hf] at hin hsl ⊢
 induction d with
 | zero =>
  intro i acc hi _
  refine ⟨1, ?_⟩
  rw [antiquaryref27_Within.l1, ← hf, if_pos hs0, if_pos hs1, if_neg (by omega), List.drop_of_length_le (by omega)]
  simp [nearF]
 | succ d ih =>
  intro i acc hi hacc
  have hx := hin _ (rd_mem (l := f) (i := (i : Int)) (by omega) (by omega))
  obtain ⟨ka, ha⟩ := key04_ex m hm (rdL l (rd f i)) v (hal _ (rdL_mem hx.1 hx.2))
  have ei := Aside0.mk (show wrap64 ((i : Int) + 1) = ((i + 1 : Nat) : Int) by rw [w64 (by omega)]; omega)
  have hdrop : f.drop i = rd f i :: f.drop (i + 1) := by
   rw [rd_natE, List.drop_eq_getElem_cons (by omega), List.getElem?_eq_getElem (by omega)]; rfl
  have hexp : ∀ K, ka ≤ K → antiquaryref27_Within.l1 (K + 1) m l v t s i g acc s true 0 = if rd (keysV m l v) (rd f i) ≤ t then antiquaryref27_Within.l1 K m l v t s ((i + 1 : Nat) : Int) g (acc ++ [rd f i]) s true 0 else antiquaryref27_Within.l1 K m l v t s ((i + 1 : Nat) : Int) g acc s true 0 := by
   intro K hK
   rw [antiquaryref27_Within.l1, ← hf, ei.out, if_pos hs0, if_pos hs1, if_pos (by omega), if_pos (by omega), if_pos hx.1, if_pos hx.2, rd_L1_eq, up_le (antiquaryref04_Key.mono _ _ _) ha hK, Option.bind_some, ← rd_keysV m l v _ hx.1 hx.2, if_pos (show acc.length < 17592186044416 by omega)]
  by_cases c : rd (keysV m l v) (rd f i) ≤ t
  ·obtain ⟨K, hK⟩ := ih (i + 1) (acc ++ [rd f i]) (by omega) (by simp; omega)
   refine ⟨K + ka + 1, ?_⟩
   have := up_le (f := fun k => antiquaryref27_Within.l1 k m l v t s ((i + 1 : Nat) : Int) g (acc ++ [rd f i]) s true 0) (fun k => (antiquaryref27_Within.mono_l k).2.2 _ _ _ _ _ _ _ _ _ _ _) hK (show K ≤ K + ka by omega)
   rw [hexp _ (by omega), if_pos c, this, hdrop]
   simp [nearF, c]
  ·obtain ⟨K, hK⟩ := ih (i + 1) acc (by omega) (by omega)
   refine ⟨K + ka + 1, ?_⟩
   have := up_le (f := fun k => antiquaryref27_Within.l1 k m l v t s ((i + 1 : Nat) : Int) g acc s true 0) (fun k => (antiquaryref27_Within.mono_l k).2.2 _ _ _ _ _ _ _ _ _ _ _) hK (show K ≤ K + ka by omega)
   rw [hexp _ (by omega), if_neg c, this, hdrop]
   simp [nearF, show t < rd (keysV m l v) (rd f i) by omega]
theorem last_rd (xs : List Int) (d : Int) (h : 1 ≤ xs.length) (hl : xs.length ≤ 9223372036854775807) : wrap64 ((xs.length : Int) - 1) = (xs.length : Int) - 1 ∧ rd xs ((xs.length : Int) - 1) = lastF d xs := by
 refine ⟨w64 (by omega), ?_⟩
 unfold lastF rd
 rw [List.getLastD_eq_getLast?, List.getLast?_eq_getElem?, show ((xs.length : Int) - 1).toNat = xs.length - 1 by omega]
 simp [show xs.length - 1 < xs.length by omega]
def withinAt (ks : List Int) (g : List Hd) (t d : Int) : Option Int → List Int × Int × Bool × Int
 | some a => (nearF ks t (rd_T61 g a).f1, a, true, 0)
 | none => ([], d, false, 0)
theorem refWithin_l0 (m : Int) (hm : 1 ≤ m ∧ m ≤ 3) (l : List (List Int)) (v : List Int) (hal : ∀ x ∈ l, alikeF x v = true) (hl : l.length ≤ 4096) (t : Int) (ht0 : 0 ≤ t) (ht1 : t ≤ 134217728) {g : List Hd} (hg : GoodG l.length g) (d0 : Int) (w : List Int) (hw0 : 1 ≤ w.length) (hw : w.length ≤ 5000) (hin : ∀ x ∈ w, 0 ≤ x ∧ x < (l.length : Int)) (d : Nat) : ∀ i : Nat, i + d = w.length →
  ∃ K, antiquaryref27_Within.l0 K m l v t i g w 0 false 0 = some (withinAt (keysV m l v) g t (lastF d0 w) ((w.drop i).find? (coverF m (keysV m l v) g t))) := by
 have hgl := hg.1
 induction d with
 | zero =>
  intro i hi
  obtain ⟨e1, e2⟩ := last_rd w d0 hw0 (by omega)
  have E1 := Aside0.mk e1
  clear e1
  refine ⟨1, ?_⟩
  rw [antiquaryref27_Within.l0, if_neg (by omega), E1.out, if_pos (by omega), if_pos (by omega), e2, List.drop_of_length_le (by omega)]
  rfl
 | succ d ih =>
  intro i hi
  have hx := hin _ (rd_mem (l := w) (i := (i : Int)) (by omega) (by omega))
  obtain ⟨hz1, hz2, hz3⟩ := hg.2 _ (rd_T_mem (g := g) (i := rd w i) hx.1 (by omega))
  obtain ⟨ka, ha⟩ := key04_ex m hm (rdL l (rd w i)) v (hal _ (rdL_mem hx.1 hx.2))
  have hb := keysV_bd (m := m) hal _ (rd_mem (l := keysV m l v) (i := rd w i) hx.1 (by rw [keysV_length]; exact hx.2))
  have hcov := fun k (hk : 40 ≤ k) => refCovers_f m (rd_T61 g (rd w i)).f0 hb.1 hb.2 ht0 ht1 k hk
  obtain ⟨y, hy, _⟩ := hcov 40 (by omega)
  have hc2 : ∀ k, 40 ≤ k → antiquaryref27_Covers.f k m (rd (keysV m l v) (rd w i)) t (rd_T61 g (rd w i)).f0 = some (coverF m (keysV m l v) g t (rd w i)) := by
   intro k hk
   obtain ⟨y', h1, h2⟩ := hcov k hk
   rw [h2]
   unfold coverF
   rw [h1]
  have ei := Aside0.mk (show wrap64 ((i : Int) + 1) = ((i + 1 : Nat) : Int) by rw [w64 (by omega)]; omega)
  have hdrop : w.drop i = rd w i :: w.drop (i + 1) := by
   rw [rd_natE, List.drop_eq_getElem_cons (by omega), List.getElem?_eq_getElem (by omega)]; rfl
  have hexp : ∀ K, ka ≤ K → 40 ≤ K → antiquaryref27_Within.l0 (K + 1) m l v t i g w 0 false 0 = if coverF m (keysV m l v) g t (rd w i) = true then antiquaryref27_Within.l1 K m l v t (rd w i) 0 g [] (rd w i) true 0 else antiquaryref27_Within.l0 K m l v t ((i + 1 : Nat) : Int) g w 0 false 0 := by
   intro K hK h40
   rw [antiquaryref27_Within.l0, ei.out, if_pos (by omega), if_pos (by omega), if_pos hx.1, if_pos hx.2, rd_L1_eq, up_le (antiquaryref04_Key.mono _ _ _) ha hK, Option.bind_some, if_pos (by omega), ← rd_keysV m l v _ hx.1 hx.2, hc2 K h40, Option.bind_some]
  cases c : coverF m (keysV m l v) g t (rd w i) with
  | true =>
   obtain ⟨K, hK⟩ := refWithin_l1 m hm l v hal t g (rd w i) hx.1 (by omega) hz3 (by omega) (rd_T61 g (rd w i)).f1.length 0 [] (by omega) (by simp)
   refine ⟨K + ka + 40 + 1, ?_⟩
   have := up_le (f := fun k => antiquaryref27_Within.l1 k m l v t (rd w i) 0 g [] (rd w i) true 0) (fun k => (antiquaryref27_Within.mono_l k).2.2 _ _ _ _ _ _ _ _ _ _ _) hK (show K ≤ K + ka + 40 by omega)
   rw [hexp _ (by omega) (by omega), if_pos c, this, hdrop, List.find?_cons, c]
   rfl
  | false =>
   obtain ⟨K, hK⟩ := ih (i + 1) (by omega)
   refine ⟨K + ka + 40 + 1, ?_⟩
   have := up_le (f := fun k => antiquaryref27_Within.l0 k m l v t ((i + 1 : Nat) : Int) g w 0 false 0) (fun k => (antiquaryref27_Within.mono_l k).2.1 _ _ _ _ _ _ _ _ _ _) hK (show K ≤ K + ka + 40 by omega)
   rw [hexp _ (by omega) (by omega), if_neg (by rw [c]; simp), this, hdrop, List.find?_cons, c]
theorem refWithin_ex (m : Int) (l : List (List Int)) (hl : fewL l) (g : List Hd) (hs : ∀ h ∈ g, h.f1.length ≤ 4096) (v : List Int) (hv : v.length ≤ 9223372036854775807) (a t : Int) :
  ∃ K, antiquaryref27_Within.f K m l g v a t = some (if Asked m l g v a ∧ 0 ≤ t ∧ t ≤ 134217728 then ((withinV m (keysV m l v) g a t).1, (withinV m (keysV m l v) g a t).2.1, (withinV m (keysV m l v) g a t).2.2, 0) else ([], 0, false, 1)) := by
 obtain ⟨k1, h1⟩ := refWalk_ex m l hl g hs v hv a
 have hno : ∀ K x0 x1 x2 x3, antiquaryref27_Within.j0 (K + 1) m l v t true g x0 x1 x2 x3 = some ([], 0, false, 1) := fun K x0 x1 x2 x3 => by rw [antiquaryref27_Within.j0, if_pos rfl]
 obtain ⟨k1, rfl⟩ : ∃ q, k1 = q := ⟨k1, rfl⟩
 have h1' := up_le (antiquaryref27_Walk.mono _ _ _ _ _) h1 (show k1 ≤ k1 + 1 by omega)
 by_cases c : Asked m l g v a
 ·rw [if_pos c] at h1 h1'
  by_cases d : t < 0
  ·refine ⟨k1 + 1, ?_⟩
   unfold antiquaryref27_Within.f
   rw [h1', Option.bind_some, if_pos rfl, if_pos d, if_neg (fun h => by omega)]
   exact hno _ _ _ _ _
  by_cases e : t > 134217728
  ·refine ⟨k1 + 1, ?_⟩
   unfold antiquaryref27_Within.f
   rw [h1', Option.bind_some, if_pos rfl, if_neg d, decide_eq_true e, if_neg (fun h => by omega)]
   exact hno _ _ _ _ _
  obtain ⟨hr, hv1, ha, h0, h2⟩ := c
  obtain ⟨hm, ⟨hl1, hl2⟩, hall⟩ := rightF_iff.1 hr
  have hg := good_of_valid hv1
  have hkl := keysV_length m l v
  obtain ⟨r, hr'⟩ := walkV_cons (keysV m l v) g a
  have h25 := hl.1
  have hwl := walkV_le (keysV m l v) g (keysV m l v).length a (by unfold cntL; exact List.length_filter_le _ _)
  obtain ⟨K, hK⟩ := refWithin_l0 m hm l v (alike_all hr ha) hl2 t (by omega) (by omega) hg a (walkV (keysV m l v) g a) (by rw [hr']; simp) (by omega) (walkV_in hg hkl a h0 (by exact_mod_cast h2)) (walkV (keysV m l v) g a).length 0 (by omega)
  refine ⟨K + k1 + 1, ?_⟩
  unfold antiquaryref27_Within.f
  rw [up_le (antiquaryref27_Walk.mono _ _ _ _ _) h1 (show k1 ≤ K + k1 + 1 by omega), Option.bind_some, if_pos rfl, if_neg d, decide_eq_false e, antiquaryref27_Within.j0, if_neg (by simp), if_pos ⟨⟨hr, hv1, ha, h0, h2⟩, by omega, by omega⟩]
  have := up_le (f := fun k => antiquaryref27_Within.l0 k m l v t 0 g (walkV (keysV m l v) g a) 0 false 0) (fun k => (antiquaryref27_Within.mono_l k).2.1 _ _ _ _ _ _ _ _ _ _) hK (show K ≤ K + k1 by omega)
  rw [this, List.drop_zero]
  unfold withinV
  cases (walkV (keysV m l v) g a).find? (coverF m (keysV m l v) g t) <;> rfl
 ·rw [if_neg c] at h1'
  refine ⟨k1 + 1, ?_⟩
  unfold antiquaryref27_Within.f
  rw [h1', Option.bind_some, if_neg (by simp), if_neg (fun h => c h.1)]
  exact hno _ _ _ _ _
open Go.RowKit
set_option maxHeartbeats 1000000 in
theorem antiquaryref27_Nearest.calls (a0 : Int) (A1 : Option Addr) (c1 : Nat) (l1 : List (List Int)) (A2_0 : Option Addr) (c2_0 : Nat) (l2_0 : List Hd) (A3 : Option Addr) (c3 : Nat) (l3 : List Int) (a4 : Int) (a5 : Int) (r1 : List Int) (r2 : Int) (r3 : Bool) (r4 : Int) (w : World) (hr1 : Kd.C (Kd.slice 3 (Kd.int .i64)) w A1 l1.length l1) (hc1 : l1.length ≤ c1) (hr2_0 : Kd.C k61 w A2_0 l2_0.length l2_0) (hc2_0 : l2_0.length ≤ c2_0) (hr3 : Kd.C (Kd.int .i64) w A3 l3.length l3) (hc3 : l3.length ≤ c3) (h : antiquaryref27_Nearest.f a0 l1 l2_0 l3 a4 a5 = some (r1, r2, r3, r4)) :
  Calls Tryz.prog 14 #[.int .i64 a0, .slice A1 l1.length c1, .agg #[.slice A2_0 l2_0.length c2_0], .slice A3 l3.length c3, .int .i64 a4, .int .i64 a5] w fun e w' => ∃ v0_ : Value, e = .returned (.agg #[v0_, .int .i64 r2, .bool r3, .int .i64 r4]) ∧ Kd.R (Kd.int .i64) 3 w' w.heap.size (fun _ => True) v0_ r1 ∧ Below w.heap.size w w' := by
 unfold antiquaryref27_Nearest.f at h
 split at h
 case isFalse => cases h
 case isTrue hpre =>
 obtain ⟨hsB, hfl, hv⟩ := hpre
 have hs : ∀ x ∈ l2_0, x.f1.length ≤ 4096 := by
  intro x hx
  unfold shortB at hsB
  rw [List.all_eq_true] at hsB
  exact of_decide_eq_true (hsB x hx)
 obtain ⟨kW, hW⟩ := refWalk_ex a0 l1 hfl l2_0 hs l3 (by omega) a4
 have h := Option.some.inj h
 by_cases hA : Asked a0 l1 l2_0 l3 a4
 ·rw [if_pos hA] at hW
  by_cases hk : 1 ≤ a5 ∧ a5 ≤ 64
  ·rw [if_pos ⟨hA, hk.1, hk.2⟩] at h
   obtain ⟨hr, hv1, ha, h0, h2⟩ := hA
   obtain ⟨hm, ⟨hl1, hl2⟩, hall⟩ := rightF_iff.1 hr
   have hg := good_of_valid hv1
   have hkl := keysV_length a0 l1 l3
   have hal := alike_all hr ha
   have h25 := hfl.1
   obtain ⟨r, hr'⟩ := walkV_cons (keysV a0 l1 l3) l2_0 a4
   have hwl := walkV_len (keysV a0 l1 l3) l2_0 a4
   have hw1 : 1 ≤ (walkV (keysV a0 l1 l3) l2_0 a4).length := by rw [hr']; simp
   have hlast := (last_rd (walkV (keysV a0 l1 l3) l2_0 a4) a4 hw1 (by omega)).2
   have hb := lastF_in (n := l1.length) (from_ := a4) ⟨h0, by exact_mod_cast h2⟩ (walkV_in hg hkl a4 h0 (by exact_mod_cast h2))
   obtain ⟨s, hs'⟩ : ∃ s, s = lastF a4 (walkV (keysV a0 l1 l3) l2_0 a4) := ⟨_, rfl⟩
   rw [← hs'] at hlast hb
   have hgl := hg.1
   obtain ⟨z1, z2, z3⟩ := hg.2 _ (rd_T_mem (g := l2_0) (i := s) hb.1 (by omega))
   obtain ⟨kO, hO⟩ := order_ex a0 hm l1 l3 hal hl2 (rd_T61 l2_0 s).f1 (by omega) z3
   have hol := ordV_length (keysV a0 l1 l3) (rd_T61 l2_0 s).f1
   have hin : ∀ y ∈ ordV (keysV a0 l1 l3) (rd_T61 l2_0 s).f1, 0 ≤ y ∧ y < (l1.length : Int) := fun y hy => z3 y ((ordV_perm _ _).mem_iff.1 hy)
   obtain ⟨o, ho⟩ : ∃ o, o = ordV (keysV a0 l1 l3) (rd_T61 l2_0 s).f1 := ⟨_, rfl⟩
   rw [← ho] at hO hol hin
   have hne : nearestV a0 (keysV a0 l1 l3) l2_0 a4 a5 l1.length = (o.take (mn a5 o.length).toNat, s, if a5 ≤ (o.length : Int) then decide (o.length = l1.length) || cover2 a0 (rd (keysV a0 l1 l3) s) (rd (keysV a0 l1 l3) (rd o (a5 - 1))) (rd_T61 l2_0 s).f0 else decide (o.length = l1.length)) := by
    unfold nearestV
    simp only []
    rw [← hs', sortF_ordV, ← ho]
    by_cases c : a5 ≤ (o.length : Int)
    ·rw [if_pos c, if_pos c, show mn a5 (o.length : Int) = a5 by unfold mn; split <;> omega]
    ·rw [if_neg c, if_neg c, show mn a5 (o.length : Int) = (o.length : Int) by unfold mn; split <;> omega, Int.toNat_natCast, List.take_length]
   rw [hne] at h
   simp only [Prod.mk.injEq] at h
   obtain ⟨rfl, rfl, hr3', rfl⟩ := h
   have hbd := keysV_bd (m := a0) (l := l1) (v := l3) hal
   refine nearRefYes a0 A1 c1 l1 A2_0 c2_0 l2_0 A3 c3 l3 a4 a5 w hr1 hc1 hr2_0 hc2_0 hr3 hc3 kW (walkV (keysV a0 l1 l3) l2_0 a4) 0 false hW hk.1 hk.2 hw1 (by omega) s hlast hb.1 hb.2 (by omega) kO o hO (by omega) (by omega) hl2 hin r3 (fun hc => ?_) (fun hc => ?_)
   ·rw [if_pos hc] at hr3'
    have hz := hin _ (rd_mem (l := o) (i := a5 - 1) (by omega) (by omega))
    obtain ⟨k1, e1⟩ := key04_ex a0 hm (rdL l1 s) l3 (hal _ (rdL_mem (l := l1) hb.1 hb.2))
    obtain ⟨k2, e2⟩ := key04_ex a0 hm (rdL l1 (rd o (a5 - 1))) l3 (hal _ (rdL_mem hz.1 hz.2))
    have b1 := hbd _ (rd_mem (l := keysV a0 l1 l3) (i := s) hb.1 (by omega))
    have b2 := hbd _ (rd_mem (l := keysV a0 l1 l3) (i := rd o (a5 - 1)) hz.1 (by omega))
    obtain ⟨y, y1, y2⟩ := refCovers_f a0 (rd_T61 l2_0 s).f0 b1.1 b1.2 b2.1 b2.2 40 (by omega)
    refine ⟨k1, _, k2, _, 40, decide (y ≤ (rd_T61 l2_0 s).f0), e1, e2, ?_, ?_⟩
    ·rw [← rd_keysV a0 l1 l3 s hb.1 hb.2, ← rd_keysV a0 l1 l3 (rd o (a5 - 1)) hz.1 hz.2]
     exact y2
    ·rw [← hr3', beq_int_nat]
     unfold cover2
     rw [y1]
   ·rw [if_neg (by omega)] at hr3'
    rw [← hr3', beq_int_nat]
  ·rw [if_neg (fun hh => hk hh.2)] at h
   simp only [Prod.mk.injEq] at h
   obtain ⟨rfl, rfl, rfl, rfl⟩ := h
   refine (nearRefNo a0 A1 c1 l1 A2_0 c2_0 l2_0 A3 c3 l3 a4 a5 w hr1 hc1 hr2_0 hc2_0 hr3 hc3 kW _ _ _ _ hW ?_).mono fun _ _ ⟨he, hb⟩ => ⟨_, he, Kd.R_nil _ _ _ _ _, hb⟩
   by_cases c : a5 < 1
   ·exact .inr (.inl ⟨rfl, c⟩)
   ·exact .inr (.inr ⟨rfl, by omega, by omega⟩)
 ·rw [if_neg hA] at hW
  rw [if_neg (fun hh => hA hh.1)] at h
  simp only [Prod.mk.injEq] at h
  obtain ⟨rfl, rfl, rfl, rfl⟩ := h
  exact (nearRefNo a0 A1 c1 l1 A2_0 c2_0 l2_0 A3 c3 l3 a4 a5 w hr1 hc1 hr2_0 hc2_0 hr3 hc3 kW _ _ _ _ hW (.inl (by omega))).mono fun _ _ ⟨he, hb⟩ => ⟨_, he, Kd.R_nil _ _ _ _ _, hb⟩
theorem walk_both (m : Int) (l : List (List Int)) (hl : fewL l) (g : List Hd) (hs : ∀ h ∈ g, h.f1.length ≤ 4096) (v : List Int) (hv : v.length ≤ 9223372036854775807) (a : Int) :
  ∃ x e y1 y2, graph_Walk.f m l g v a = some (x, e) ∧ (∃ K, antiquaryref27_Walk.f K m l g v a = some (x, y1, y2, e)) ∧ x.length ≤ 4096 := by
 have h := refWalk_ex m l hl g hs v hv a
 have e : graph_Walk.f m l g v a = some (if Asked m l g v a then (walkV (keysV m l v) g a, 0) else ([], 1)) := by unfold graph_Walk.f; rw [if_pos (shortB_mk hs)]
 by_cases c : Asked m l g v a
 ·rw [if_pos c] at h e
  have hkl := keysV_length m l v
  have h25 := hl.1
  have hwl := walkV_le (keysV m l v) g (keysV m l v).length a (by unfold cntL; exact List.length_filter_le _ _)
  exact ⟨_, _, _, _, e, h, by omega⟩
 ·rw [if_neg c] at h e
  exact ⟨_, _, _, _, e, h, by simp⟩
theorem nearF_le (ks : List Int) (t : Int) (xs : List Int) : (nearF ks t xs).length ≤ xs.length := List.length_filter_le _ _
theorem within_both (m : Int) (l : List (List Int)) (hl : fewL l) (g : List Hd) (hs : ∀ h ∈ g, h.f1.length ≤ 4096) (v : List Int) (hv : v.length ≤ 9223372036854775807) (a t : Int) :
  ∃ x s b e, graph_Within.f m l g v a t = some (x, s, b, e) ∧ (∃ K, antiquaryref27_Within.f K m l g v a t = some (x, s, b, e)) ∧ x.length ≤ 4096 := by
 have h := refWithin_ex m l hl g hs v hv a t
 by_cases c : Asked m l g v a ∧ 0 ≤ t ∧ t ≤ 134217728
 ·rw [if_pos c] at h
  refine ⟨_, _, _, _, ?_, h, ?_⟩
  ·unfold graph_Within.f
   rw [if_pos (shortB_mk hs), if_pos c, if_pos (hiOk_of (keysV_bd (alike_all c.1.1 c.1.2.2.1)) (fun y hy => by simp at hy; subst hy; omega))]
  ·obtain ⟨⟨hr, hv1, ha, h0, h2⟩, _, _⟩ := c
   have hg := good_of_valid hv1
   have hkl := keysV_length m l v
   unfold withinV
   cases hf : (walkV (keysV m l v) g a).find? (coverF m (keysV m l v) g t) with
   | none => simp
   | some b =>
    have hb := walkV_in hg hkl a h0 (by exact_mod_cast h2) b (List.mem_of_find?_eq_some hf)
    have := hs _ (rd_T_mem (g := g) (i := b) hb.1 (by rw [hg.1]; exact hb.2))
    exact Nat.le_trans (nearF_le _ _ _) this
 ·rw [if_neg c] at h
  refine ⟨_, _, _, _, ?_, h, by simp⟩
  unfold graph_Within.f
  rw [if_pos (shortB_mk hs), if_neg c]
theorem nearest_both (m : Int) (l : List (List Int)) (hl : fewL l) (g : List Hd) (hs : ∀ h ∈ g, h.f1.length ≤ 4096) (v : List Int) (hv : v.length ≤ 4096) (a k : Int) :
  ∃ x s b e, graph_Nearest.f m l g v a k = some (x, s, b, e) ∧ antiquaryref27_Nearest.f m l g v a k = some (x, s, b, e) ∧ x.length ≤ 4096 := by
 unfold antiquaryref27_Nearest.f
 rw [if_pos ⟨shortB_mk hs, hl, hv⟩]
 unfold graph_Nearest.f
 rw [if_pos (shortB_mk hs)]
 by_cases c : Asked m l g v a ∧ 1 ≤ k ∧ k ≤ 64
 ·rw [if_pos c, if_pos c, if_pos ⟨hiOk_of (keysV_bd (alike_all c.1.1 c.1.2.2.1)) (keysV_bd (alike_all c.1.1 c.1.2.2.1)), hl.1⟩]
  refine ⟨_, _, _, _, rfl, rfl, ?_⟩
  obtain ⟨⟨hr, hv1, ha, h0, h2⟩, _, _⟩ := c
  have hg := good_of_valid hv1
  have hkl := keysV_length m l v
  have hb := lastF_in (n := l.length) (from_ := a) ⟨h0, by exact_mod_cast h2⟩ (walkV_in hg hkl a h0 (by exact_mod_cast h2))
  have h1 := hs _ (rd_T_mem (g := g) hb.1 (by rw [hg.1]; exact hb.2))
  have h3 := sortF_length (orderF (keysV m l v)) (rd_T61 g (lastF a (walkV (keysV m l v) g a))).f1
  unfold nearestV
  simp only []
  split
  ·rw [List.length_take]; omega
  ·dsimp only; omega
 ·rw [if_neg c, if_neg c]
  exact ⟨_, _, _, _, rfl, rfl, by simp⟩
theorem covers_both (m : Int) {t k : Int} (a : Int) (h1 : 0 ≤ t) (h2 : t ≤ 134217728) (h3 : 0 ≤ k) (h4 : k ≤ 134217728) : ∃ b, graph_Covers.f m t k a = some b ∧ ∃ K, antiquaryref27_Covers.f K m t k a = some b := by
 obtain ⟨y, e1, e2⟩ := refCovers_f m a h1 h2 h3 h4 40 (by omega)
 refine ⟨decide (y ≤ a), ?_, 40, e2⟩
 unfold graph_Covers.f
 rw [e1]
 rfl
attribute [local go_sem] Oper.semAt_some
set_option maxHeartbeats 4000000 in
set_option maxRecDepth 100000 in
theorem walksNo1 (m : Int) (A1 : Option Addr) (c1 : Nat) (l : List (List Int)) (A2 : Option Addr) (c2 : Nat) (g : List Hd) (A3 : Option Addr) (c3 : Nat) (v : List Int) (a t k : Int) (w : World) (hr1 : Kd.C (Kd.slice 3 (Kd.int .i64)) w A1 l.length l) (hc1 : l.length ≤ c1) (hr2 : Kd.C k61 w A2 g.length g) (hc2 : g.length ≤ c2) (hr3 : Kd.C (Kd.int .i64) w A3 v.length v) (hc3 : v.length ≤ c3) (k1 : Nat) (h1 : antiquaryref09_Few.f k1 l 25 = some false) :
  Calls Tryz.prog 3 #[.int .i64 m, .slice A1 l.length c1, .agg #[.slice A2 g.length c2], .slice A3 v.length c3, .int .i64 a, .int .i64 t, .int .i64 k] w fun e w' => e = .returned (.bool true) ∧ Below w.heap.size w w' := by
 have hu := Tryz.underlying25
 have HF := Aside0.mk (antiquaryref09_Few.calls k1 A1 c1 l 25 false _ (Kd.C_alloc hr1 (.cells #[.slice A2 g.length c2] 25)) hc1 h1)
 clear hr1 hr2 hr3 h1
 go_enter Tryz.func3, Tryz.ntmps3
 go_wp2_with fail
 refine HF.out.mono ?_
 rintro e w1 ⟨rfl, hd⟩
 have HB := Aside0.mk (below_step (below_alloc (Below.refl _ w) _) hd.below)
 clear hd HF
 go_wp2_with fail
 refine (sanityC w1).mono ?_
 rintro e w2 ⟨rfl, hb⟩
 have HB2 := Aside0.mk (below_step HB.out hb)
 clear hb
 go_wp2
 go_ret
 exact ⟨rfl, HB2.out⟩
set_option maxHeartbeats 4000000 in
set_option maxRecDepth 100000 in
theorem walksNo2 (m : Int) (A1 : Option Addr) (c1 : Nat) (l : List (List Int)) (A2 : Option Addr) (c2 : Nat) (g : List Hd) (A3 : Option Addr) (c3 : Nat) (v : List Int) (a t k : Int) (w : World) (hr1 : Kd.C (Kd.slice 3 (Kd.int .i64)) w A1 l.length l) (hc1 : l.length ≤ c1) (hr2 : Kd.C k61 w A2 g.length g) (hc2 : g.length ≤ c2) (hr3 : Kd.C (Kd.int .i64) w A3 v.length v) (hc3 : v.length ≤ c3) (k1 : Nat) (h1 : antiquaryref09_Few.f k1 l 25 = some true) (k2 : Nat) (h2 : antiquaryref27_Few.f k2 g = some false) :
  Calls Tryz.prog 3 #[.int .i64 m, .slice A1 l.length c1, .agg #[.slice A2 g.length c2], .slice A3 v.length c3, .int .i64 a, .int .i64 t, .int .i64 k] w fun e w' => e = .returned (.bool true) ∧ Below w.heap.size w w' := by
 have hu := Tryz.underlying25
 have HF := Aside0.mk ((antiquaryref09_Few.calls k1 A1 c1 l 25 true _ (Kd.C_alloc hr1 (.cells #[.slice A2 g.length c2] 25)) hc1 h1))
 have HF2 := Aside0.mk (fun W (hW : Below w.heap.size w W) => (antiquaryref27_Few.calls k2 A2 c2 g false W (Kd.C_below hr2 hW) hc2 h2))
 clear hr1 hr2 hr3 h1 h2
 go_enter Tryz.func3, Tryz.ntmps3
 go_wp2_with fail
 refine HF.out.mono ?_
 rintro e w1 ⟨rfl, hd⟩
 have HX := Aside0.mk (blk_below (blk_new w (.cells #[.slice A2 g.length c2] 25)) hd.below)
 have c0 := cell_of_blk HX.out
 have HB := Aside0.mk (below_step (below_alloc (Below.refl _ w) _) hd.below)
 clear hd HF
 go_wp2_with fail
 refine (HF2.out _ HB.out).mono ?_
 rintro e w2 ⟨rfl, hb⟩
 replace HX := Aside0.mk (blk_below HX.out hb)
 replace HB := Aside0.mk (below_step HB.out hb)
 clear hb HF2 c0
 have c0 := cell_of_blk HX.out
 go_wp2_with fail
 refine ((sanityC _)).mono ?_
 rintro e w9 ⟨rfl, hb⟩
 have HB9 := Aside0.mk (below_step HB.out hb)
 clear hb
 go_wp2
 go_ret
 exact ⟨ret_bool (by simp), HB9.out⟩
set_option maxHeartbeats 4000000 in
set_option maxRecDepth 100000 in
theorem walksNo3 (m : Int) (A1 : Option Addr) (c1 : Nat) (l : List (List Int)) (A2 : Option Addr) (c2 : Nat) (g : List Hd) (A3 : Option Addr) (c3 : Nat) (v : List Int) (a t k : Int) (w : World) (hr1 : Kd.C (Kd.slice 3 (Kd.int .i64)) w A1 l.length l) (hc1 : l.length ≤ c1) (hr2 : Kd.C k61 w A2 g.length g) (hc2 : g.length ≤ c2) (hr3 : Kd.C (Kd.int .i64) w A3 v.length v) (hc3 : v.length ≤ c3) (k1 : Nat) (h1 : antiquaryref09_Few.f k1 l 25 = some true) (k2 : Nat) (h2 : antiquaryref27_Few.f k2 g = some true) (hv : (v.length : Int) > 40) :
  Calls Tryz.prog 3 #[.int .i64 m, .slice A1 l.length c1, .agg #[.slice A2 g.length c2], .slice A3 v.length c3, .int .i64 a, .int .i64 t, .int .i64 k] w fun e w' => e = .returned (.bool true) ∧ Below w.heap.size w w' := by
 have hu := Tryz.underlying25
 have HF := Aside0.mk ((antiquaryref09_Few.calls k1 A1 c1 l 25 true _ (Kd.C_alloc hr1 (.cells #[.slice A2 g.length c2] 25)) hc1 h1))
 have HF2 := Aside0.mk (fun W (hW : Below w.heap.size w W) => (antiquaryref27_Few.calls k2 A2 c2 g true W (Kd.C_below hr2 hW) hc2 h2))
 clear hr1 hr2 hr3 h1 h2
 go_enter Tryz.func3, Tryz.ntmps3
 go_wp2_with fail
 refine HF.out.mono ?_
 rintro e w1 ⟨rfl, hd⟩
 have HX := Aside0.mk (blk_below (blk_new w (.cells #[.slice A2 g.length c2] 25)) hd.below)
 have c0 := cell_of_blk HX.out
 have HB := Aside0.mk (below_step (below_alloc (Below.refl _ w) _) hd.below)
 clear hd HF
 go_wp2_with fail
 refine (HF2.out _ HB.out).mono ?_
 rintro e w2 ⟨rfl, hb⟩
 replace HX := Aside0.mk (blk_below HX.out hb)
 replace HB := Aside0.mk (below_step HB.out hb)
 clear hb HF2 c0
 have c0 := cell_of_blk HX.out
 go_wp2_with fail
 refine ((sanityC _)).mono ?_
 rintro e w9 ⟨rfl, hb⟩
 have HB9 := Aside0.mk (below_step HB.out hb)
 clear hb
 go_wp2
 go_ret
 exact ⟨ret_bool (by simp), HB9.out⟩
structure AgreeW (m : Int) (l : List (List Int)) (g : List Hd) (v : List Int) (a t k : Int) : Prop where
 all : ∃ x1 e1 y1 z1 x2 s2 b2 e2 x3 s3 b3 e3, graph_Walk.f m l g v a = some (x1, e1) ∧ (∃ K, antiquaryref27_Walk.f K m l g v a = some (x1, y1, z1, e1)) ∧ graph_Within.f m l g v a t = some (x2, s2, b2, e2) ∧ (∃ K, antiquaryref27_Within.f K m l g v a t = some (x2, s2, b2, e2)) ∧ graph_Nearest.f m l g v a k = some (x3, s3, b3, e3) ∧ antiquaryref27_Nearest.f m l g v a k = some (x3, s3, b3, e3) ∧ (∃ K, antiquaryref27_Same.f K x1 x1 = some true) ∧ (∃ K, antiquaryref27_Same.f K x2 x2 = some true) ∧ (∃ K, antiquaryref27_Same.f K x3 x3 = some true)
inductive TestW (m t k a : Int) : Prop where
 | m (h : antiquaryref09_Metric.f m = some false)
 | t0 (h : antiquaryref09_Metric.f m = some true) (h1 : ¬ 0 ≤ t)
 | t1 (h : antiquaryref09_Metric.f m = some true) (h1 : 0 ≤ t) (h2 : ¬ t ≤ 134217728)
 | k0 (h : antiquaryref09_Metric.f m = some true) (h1 : 0 ≤ t) (h2 : t ≤ 134217728) (h3 : ¬ 0 ≤ k)
 | k1 (h : antiquaryref09_Metric.f m = some true) (h1 : 0 ≤ t) (h2 : t ≤ 134217728) (h3 : 0 ≤ k) (h4 : ¬ k ≤ 134217728)
 | all (h : antiquaryref09_Metric.f m = some true) (h1 : 0 ≤ t) (h2 : t ≤ 134217728) (h3 : 0 ≤ k) (h4 : k ≤ 134217728) (b : Bool) (K : Nat) (h5 : graph_Covers.f m t k a = some b) (h6 : antiquaryref27_Covers.f K m t k a = some b)
set_option maxHeartbeats 4000000 in
set_option maxRecDepth 100000 in
theorem walksYes (m : Int) (A1 : Option Addr) (c1 : Nat) (l : List (List Int)) (A2 : Option Addr) (c2 : Nat) (g : List Hd) (A3 : Option Addr) (c3 : Nat) (v : List Int) (a t k : Int) (w : World) (hr1 : Kd.C (Kd.slice 3 (Kd.int .i64)) w A1 l.length l) (hc1 : l.length ≤ c1) (hr2 : Kd.C k61 w A2 g.length g) (hc2 : g.length ≤ c2) (hr3 : Kd.C (Kd.int .i64) w A3 v.length v) (hc3 : v.length ≤ c3) (k1 : Nat) (h1 : antiquaryref09_Few.f k1 l 25 = some true) (k2 : Nat) (h2 : antiquaryref27_Few.f k2 g = some true) (hv : ¬ (v.length : Int) > 40) (ha : AgreeW m l g v a t k) (ht : TestW m t k a) :
  Calls Tryz.prog 3 #[.int .i64 m, .slice A1 l.length c1, .agg #[.slice A2 g.length c2], .slice A3 v.length c3, .int .i64 a, .int .i64 t, .int .i64 k] w fun e w' => e = .returned (.bool true) ∧ Below w.heap.size w w' := by
 have hu := Tryz.underlying25
 have hu2 := Tryz.underlying36
 obtain ⟨x1, e1, y1, z1, x2, s2, b2, e2, x3, s3, b3, e3, q1, ⟨kA, q2⟩, q3, ⟨kB, q4⟩, q5, q6, ⟨kC, q7⟩, ⟨kD, q8⟩, ⟨kE, q9⟩⟩ := ha.all
 have HF := Aside0.mk ((antiquaryref09_Few.calls k1 A1 c1 l 25 true _ (Kd.C_alloc hr1 (.cells #[.slice A2 g.length c2] 25)) hc1 h1))
 have HF2 := Aside0.mk (fun W (hW : Below w.heap.size w W) => (antiquaryref27_Few.calls k2 A2 c2 g true W (Kd.C_below hr2 hW) hc2 h2))
 have J1 := Aside0.mk (fun W (hW : Below w.heap.size w W) => (graph_Walk.calls m A1 c1 l A2 c2 g A3 c3 v a x1 e1 W (Kd.C_below hr1 hW) hc1 (Kd.C_below hr2 hW) hc2 (Kd.C_below hr3 hW) hc3 q1))
 have J2 := Aside0.mk (fun W (hW : Below w.heap.size w W) => (graph_Within.calls m A1 c1 l A2 c2 g A3 c3 v a t x2 s2 b2 e2 W (Kd.C_below hr1 hW) hc1 (Kd.C_below hr2 hW) hc2 (Kd.C_below hr3 hW) hc3 q3))
 have J3 := Aside0.mk (fun W (hW : Below w.heap.size w W) => (graph_Nearest.calls m A1 c1 l A2 c2 g A3 c3 v a k x3 s3 b3 e3 W (Kd.C_below hr1 hW) hc1 (Kd.C_below hr2 hW) hc2 (Kd.C_below hr3 hW) hc3 q5))
 have J4 := Aside0.mk (fun W (hW : Below w.heap.size w W) => (antiquaryref27_Walk.calls kA m A1 c1 l A2 c2 g A3 c3 v a x1 y1 z1 e1 W (Kd.C_below hr1 hW) hc1 (Kd.C_below hr2 hW) hc2 (Kd.C_below hr3 hW) hc3 q2))
 have J5 := Aside0.mk (fun W (hW : Below w.heap.size w W) => (antiquaryref27_Within.calls kB m A1 c1 l A2 c2 g A3 c3 v a t x2 s2 b2 e2 W (Kd.C_below hr1 hW) hc1 (Kd.C_below hr2 hW) hc2 (Kd.C_below hr3 hW) hc3 q4))
 have J6 := Aside0.mk (fun W (hW : Below w.heap.size w W) => (antiquaryref27_Nearest.calls m A1 c1 l A2 c2 g A3 c3 v a k x3 s3 b3 e3 W (Kd.C_below hr1 hW) hc1 (Kd.C_below hr2 hW) hc2 (Kd.C_below hr3 hW) hc3 q6))
 have S1 := Aside0.mk q7
 have S2 := Aside0.mk q8
 have S3 := Aside0.mk q9
 have HT := Aside0.mk ht
 clear hr1 hr2 hr3 h1 h2 ha q1 q2 q3 q4 q5 q6 q7 q8 q9 ht
 have be1 : (e1 == e1) = true := beq_self_eq_true _
 have be2 : (e2 == e2) = true := beq_self_eq_true _
 have be3 : (e3 == e3) = true := beq_self_eq_true _
 have bs2 : (s2 == s2) = true := beq_self_eq_true _
 have bs3 : (s3 == s3) = true := beq_self_eq_true _
 have bb2 : (b2 == b2) = true := beq_self_eq_true _
 have bb3 : (b3 == b3) = true := beq_self_eq_true _
 go_enter Tryz.func3, Tryz.ntmps3
 go_wp2_with fail
 refine HF.out.mono ?_
 rintro e w1 ⟨rfl, hd⟩
 have HX := Aside0.mk (blk_below (blk_new w (.cells #[.slice A2 g.length c2] 25)) hd.below)
 have c0 := cell_of_blk HX.out
 have HB := Aside0.mk (below_step (below_alloc (Below.refl _ w) _) hd.below)
 clear hd HF
 go_wp2_with fail
 refine (HF2.out _ HB.out).mono ?_
 rintro e w2 ⟨rfl, hb⟩
 replace HX := Aside0.mk (blk_below HX.out hb)
 replace HB := Aside0.mk (below_step HB.out hb)
 clear hb HF2 c0
 have c0 := cell_of_blk HX.out
 go_wp2_with fail
 refine (J1.out _ HB.out).mono ?_
 rintro e W ⟨v1, rfl, hR, hb⟩
 obtain ⟨B1, d1, rfl⟩ := Kd.R_slice hR
 have hcB1 := (Kd.R_reads' hR).2.1
 have HG1 := Aside0.mk (Kd.R_reads' hR).2.2
 have hbk := hb
 replace HX := Aside0.mk (blk_below HX.out hbk)
 replace HB := Aside0.mk (below_step HB.out hbk)
 clear hb hbk hR J1 c0
 have c0 := cell_of_blk HX.out
 go_wp2_with fail
 refine (J2.out _ HB.out).mono ?_
 rintro e W ⟨v2, rfl, hR, hb⟩
 obtain ⟨B2, d2, rfl⟩ := Kd.R_slice hR
 have hcB2 := (Kd.R_reads' hR).2.1
 have HG2 := Aside0.mk (Kd.R_reads' hR).2.2
 have hbk := hb
 replace HG1 := Aside0.mk (Kd.C_below HG1.out hbk)
 replace HX := Aside0.mk (blk_below HX.out hbk)
 replace HB := Aside0.mk (below_step HB.out hbk)
 clear hb hbk hR J2 c0
 have c0 := cell_of_blk HX.out
 go_wp2_with fail
 refine (J3.out _ HB.out).mono ?_
 rintro e W ⟨v3, rfl, hR, hb⟩
 obtain ⟨B3, d3, rfl⟩ := Kd.R_slice hR
 have hcB3 := (Kd.R_reads' hR).2.1
 have HG3 := Aside0.mk (Kd.R_reads' hR).2.2
 have hbk := hb
 replace HG1 := Aside0.mk (Kd.C_below HG1.out hbk)
 replace HG2 := Aside0.mk (Kd.C_below HG2.out hbk)
 replace HX := Aside0.mk (blk_below HX.out hbk)
 replace HB := Aside0.mk (below_step HB.out hbk)
 clear hb hbk hR J3 c0
 have c0 := cell_of_blk HX.out
 go_wp2_with fail
 refine (J4.out _ HB.out).mono ?_
 rintro e W ⟨v4, rfl, hR, hb⟩
 obtain ⟨B4, d4, rfl⟩ := Kd.R_slice hR
 have hcB4 := (Kd.R_reads' hR).2.1
 have HG4 := Aside0.mk (Kd.R_reads' hR).2.2
 have hbk := below_alloc (below_step (Below.refl _ _) hb) (.cells #[.slice B4 x1.length d4, .int .i64 y1, .bool z1, .int .i64 e1] 36)
 have HZ4 := Aside0.mk (blk_new W (.cells #[.slice B4 x1.length d4, .int .i64 y1, .bool z1, .int .i64 e1] 36))
 replace HG4 := Aside0.mk (Kd.C_alloc HG4.out (.cells #[.slice B4 x1.length d4, .int .i64 y1, .bool z1, .int .i64 e1] 36))
 replace HG1 := Aside0.mk (Kd.C_below HG1.out hbk)
 replace HG2 := Aside0.mk (Kd.C_below HG2.out hbk)
 replace HG3 := Aside0.mk (Kd.C_below HG3.out hbk)
 replace HX := Aside0.mk (blk_below HX.out hbk)
 replace HB := Aside0.mk (below_step HB.out hbk)
 clear hb hbk hR J4 c0
 have c0 := cell_of_blk HX.out
 go_upto_region 7 with (fail)
 generalize hWn : W.alloc (.cells #[.slice B4 x1.length d4, .int .i64 y1, .bool z1, .int .i64 e1] 36) = Wn at HG1 HG2 HG3 HG4 HZ4 HX HB c0 ⊢
 have hsW4 : W.heap.size < Wn.heap.size := by rw [← hWn]; simp
 obtain ⟨p4, hp4⟩ : ∃ p, p = W.heap.size := ⟨_, rfl⟩
 rw [← hp4] at HZ4 ⊢
 clear hWn hsW4 hp4
 go_wp2_with fail
 refine (J5.out _ HB.out).mono ?_
 rintro e W ⟨v5, rfl, hR, hb⟩
 obtain ⟨B5, d5, rfl⟩ := Kd.R_slice hR
 have hcB5 := (Kd.R_reads' hR).2.1
 have HG5 := Aside0.mk (Kd.R_reads' hR).2.2
 have hbk := below_alloc (below_step (Below.refl _ _) hb) (.cells #[.slice B5 x2.length d5, .int .i64 s2, .bool b2, .int .i64 e2] 36)
 have HZ5 := Aside0.mk (blk_new W (.cells #[.slice B5 x2.length d5, .int .i64 s2, .bool b2, .int .i64 e2] 36))
 replace HG5 := Aside0.mk (Kd.C_alloc HG5.out (.cells #[.slice B5 x2.length d5, .int .i64 s2, .bool b2, .int .i64 e2] 36))
 replace HG1 := Aside0.mk (Kd.C_below HG1.out hbk)
 replace HG2 := Aside0.mk (Kd.C_below HG2.out hbk)
 replace HG3 := Aside0.mk (Kd.C_below HG3.out hbk)
 replace HG4 := Aside0.mk (Kd.C_below HG4.out hbk)
 replace HZ4 := Aside0.mk (blk_below HZ4.out hbk)
 replace HX := Aside0.mk (blk_below HX.out hbk)
 replace HB := Aside0.mk (below_step HB.out hbk)
 clear hb hbk hR J5 c0
 have c0 := cell_of_blk HX.out
 go_upto_region 8 with (fail)
 generalize hWn : W.alloc (.cells #[.slice B5 x2.length d5, .int .i64 s2, .bool b2, .int .i64 e2] 36) = Wn at HG1 HG2 HG3 HG4 HG5 HZ4 HZ5 HX HB c0 ⊢
 have hsW5 : W.heap.size < Wn.heap.size := by rw [← hWn]; simp
 obtain ⟨p5, hp5⟩ : ∃ p, p = W.heap.size := ⟨_, rfl⟩
 rw [← hp5] at HZ5 ⊢
 clear hWn hsW5 hp5
 go_wp2_with fail
 refine (J6.out _ HB.out).mono ?_
 rintro e W ⟨v6, rfl, hR, hb⟩
 obtain ⟨B6, d6, rfl⟩ := Kd.R_slice hR
 have hcB6 := (Kd.R_reads' hR).2.1
 have HG6 := Aside0.mk (Kd.R_reads' hR).2.2
 have hbk := below_alloc (below_step (Below.refl _ _) hb) (.cells #[.slice B6 x3.length d6, .int .i64 s3, .bool b3, .int .i64 e3] 36)
 have HZ6 := Aside0.mk (blk_new W (.cells #[.slice B6 x3.length d6, .int .i64 s3, .bool b3, .int .i64 e3] 36))
 replace HG6 := Aside0.mk (Kd.C_alloc HG6.out (.cells #[.slice B6 x3.length d6, .int .i64 s3, .bool b3, .int .i64 e3] 36))
 replace HG1 := Aside0.mk (Kd.C_below HG1.out hbk)
 replace HG2 := Aside0.mk (Kd.C_below HG2.out hbk)
 replace HG3 := Aside0.mk (Kd.C_below HG3.out hbk)
 replace HG4 := Aside0.mk (Kd.C_below HG4.out hbk)
 replace HG5 := Aside0.mk (Kd.C_below HG5.out hbk)
 replace HZ4 := Aside0.mk (blk_below HZ4.out hbk)
 replace HZ5 := Aside0.mk (blk_below HZ5.out hbk)
 replace HX := Aside0.mk (blk_below HX.out hbk)
 replace HB := Aside0.mk (below_step HB.out hbk)
 clear hb hbk hR J6 c0
 have c0 := cell_of_blk HX.out
 go_upto_region 9 with (fail)
 generalize hWn : W.alloc (.cells #[.slice B6 x3.length d6, .int .i64 s3, .bool b3, .int .i64 e3] 36) = Wn at HG1 HG2 HG3 HG4 HG5 HG6 HZ4 HZ5 HZ6 HX HB c0 ⊢
 have hsW6 : W.heap.size < Wn.heap.size := by rw [← hWn]; simp
 obtain ⟨p6, hp6⟩ : ∃ p, p = W.heap.size := ⟨_, rfl⟩
 rw [← hp6] at HZ6 ⊢
 clear hWn hsW6 hp6
 have z40 : Wn.cell? ⟨p4, 0, none⟩ = some (.slice B4 x1.length d4) := by simp [World.cell?, HZ4.out]
 have z41 : Wn.cell? ⟨p4, 1, none⟩ = some (.int .i64 y1) := by simp [World.cell?, HZ4.out]
 have z42 : Wn.cell? ⟨p4, 2, none⟩ = some (.bool z1) := by simp [World.cell?, HZ4.out]
 have z43 : Wn.cell? ⟨p4, 3, none⟩ = some (.int .i64 e1) := by simp [World.cell?, HZ4.out]
 have z50 : Wn.cell? ⟨p5, 0, none⟩ = some (.slice B5 x2.length d5) := by simp [World.cell?, HZ5.out]
 have z51 : Wn.cell? ⟨p5, 1, none⟩ = some (.int .i64 s2) := by simp [World.cell?, HZ5.out]
 have z52 : Wn.cell? ⟨p5, 2, none⟩ = some (.bool b2) := by simp [World.cell?, HZ5.out]
 have z53 : Wn.cell? ⟨p5, 3, none⟩ = some (.int .i64 e2) := by simp [World.cell?, HZ5.out]
 have z60 : Wn.cell? ⟨p6, 0, none⟩ = some (.slice B6 x3.length d6) := by simp [World.cell?, HZ6.out]
 have z61 : Wn.cell? ⟨p6, 1, none⟩ = some (.int .i64 s3) := by simp [World.cell?, HZ6.out]
 have z62 : Wn.cell? ⟨p6, 2, none⟩ = some (.bool b3) := by simp [World.cell?, HZ6.out]
 have z63 : Wn.cell? ⟨p6, 3, none⟩ = some (.int .i64 e3) := by simp [World.cell?, HZ6.out]
 go_wp2_with fail
 refine ((antiquaryref27_Same.calls kC B1 d1 x1 B4 d4 x1 true _ HG1.out hcB1 HG4.out hcB4 S1.out)).mono ?_
 rintro e W1 ⟨rfl, hd⟩
 have hbk := hd.below
 clear z40 z41 z42 z43
 clear z50 z51 z52 z53
 clear z60 z61 z62 z63
 replace HG5 := Aside0.mk (Kd.C_below HG5.out hbk)
 replace HG2 := Aside0.mk (Kd.C_below HG2.out hbk)
 replace HG6 := Aside0.mk (Kd.C_below HG6.out hbk)
 replace HG3 := Aside0.mk (Kd.C_below HG3.out hbk)
 replace HZ4 := Aside0.mk (blk_below HZ4.out hbk)
 replace HZ5 := Aside0.mk (blk_below HZ5.out hbk)
 replace HZ6 := Aside0.mk (blk_below HZ6.out hbk)
 replace HX := Aside0.mk (blk_below HX.out hbk)
 replace HB := Aside0.mk (below_step HB.out hbk)
 clear hd hbk
 have z40 : W1.cell? ⟨p4, 0, none⟩ = some (.slice B4 x1.length d4) := by simp [World.cell?, HZ4.out]
 have z41 : W1.cell? ⟨p4, 1, none⟩ = some (.int .i64 y1) := by simp [World.cell?, HZ4.out]
 have z42 : W1.cell? ⟨p4, 2, none⟩ = some (.bool z1) := by simp [World.cell?, HZ4.out]
 have z43 : W1.cell? ⟨p4, 3, none⟩ = some (.int .i64 e1) := by simp [World.cell?, HZ4.out]
 have z50 : W1.cell? ⟨p5, 0, none⟩ = some (.slice B5 x2.length d5) := by simp [World.cell?, HZ5.out]
 have z51 : W1.cell? ⟨p5, 1, none⟩ = some (.int .i64 s2) := by simp [World.cell?, HZ5.out]
 have z52 : W1.cell? ⟨p5, 2, none⟩ = some (.bool b2) := by simp [World.cell?, HZ5.out]
 have z53 : W1.cell? ⟨p5, 3, none⟩ = some (.int .i64 e2) := by simp [World.cell?, HZ5.out]
 have z60 : W1.cell? ⟨p6, 0, none⟩ = some (.slice B6 x3.length d6) := by simp [World.cell?, HZ6.out]
 have z61 : W1.cell? ⟨p6, 1, none⟩ = some (.int .i64 s3) := by simp [World.cell?, HZ6.out]
 have z62 : W1.cell? ⟨p6, 2, none⟩ = some (.bool b3) := by simp [World.cell?, HZ6.out]
 have z63 : W1.cell? ⟨p6, 3, none⟩ = some (.int .i64 e3) := by simp [World.cell?, HZ6.out]
 go_wp2_with fail
 refine ((antiquaryref27_Same.calls kD B2 d2 x2 B5 d5 x2 true _ HG2.out hcB2 HG5.out hcB5 S2.out)).mono ?_
 rintro e W2 ⟨rfl, hd⟩
 have hbk := hd.below
 clear z50 z51 z52 z53
 clear z60 z61 z62 z63
 replace HG6 := Aside0.mk (Kd.C_below HG6.out hbk)
 replace HG3 := Aside0.mk (Kd.C_below HG3.out hbk)
 replace HZ5 := Aside0.mk (blk_below HZ5.out hbk)
 replace HZ6 := Aside0.mk (blk_below HZ6.out hbk)
 replace HX := Aside0.mk (blk_below HX.out hbk)
 replace HB := Aside0.mk (below_step HB.out hbk)
 clear hd hbk
 have z50 : W2.cell? ⟨p5, 0, none⟩ = some (.slice B5 x2.length d5) := by simp [World.cell?, HZ5.out]
 have z51 : W2.cell? ⟨p5, 1, none⟩ = some (.int .i64 s2) := by simp [World.cell?, HZ5.out]
 have z52 : W2.cell? ⟨p5, 2, none⟩ = some (.bool b2) := by simp [World.cell?, HZ5.out]
 have z53 : W2.cell? ⟨p5, 3, none⟩ = some (.int .i64 e2) := by simp [World.cell?, HZ5.out]
 have z60 : W2.cell? ⟨p6, 0, none⟩ = some (.slice B6 x3.length d6) := by simp [World.cell?, HZ6.out]
 have z61 : W2.cell? ⟨p6, 1, none⟩ = some (.int .i64 s3) := by simp [World.cell?, HZ6.out]
 have z62 : W2.cell? ⟨p6, 2, none⟩ = some (.bool b3) := by simp [World.cell?, HZ6.out]
 have z63 : W2.cell? ⟨p6, 3, none⟩ = some (.int .i64 e3) := by simp [World.cell?, HZ6.out]
 go_wp2_with fail
 refine ((antiquaryref27_Same.calls kE B3 d3 x3 B6 d6 x3 true _ HG3.out hcB3 HG6.out hcB6 S3.out)).mono ?_
 rintro e W3 ⟨rfl, hd⟩
 have hbk := hd.below
 clear z60 z61 z62 z63
 replace HZ6 := Aside0.mk (blk_below HZ6.out hbk)
 replace HX := Aside0.mk (blk_below HX.out hbk)
 replace HB := Aside0.mk (below_step HB.out hbk)
 clear hd hbk
 have z60 : W3.cell? ⟨p6, 0, none⟩ = some (.slice B6 x3.length d6) := by simp [World.cell?, HZ6.out]
 have z61 : W3.cell? ⟨p6, 1, none⟩ = some (.int .i64 s3) := by simp [World.cell?, HZ6.out]
 have z62 : W3.cell? ⟨p6, 2, none⟩ = some (.bool b3) := by simp [World.cell?, HZ6.out]
 have z63 : W3.cell? ⟨p6, 3, none⟩ = some (.int .i64 e3) := by simp [World.cell?, HZ6.out]
 go_wp2_with fail
 have HGo := HB
 clear HB
 have HB := HGo
 clear HGo
 cases HT.out with
 | m h =>
  refine ((antiquaryref09_Metric.calls m false _ h)).mono ?_
  rintro e W9 ⟨rfl, hd⟩
  replace HB := Aside0.mk (below_step HB.out hd.below)
  clear hd
  go_wp2_with fail
  refine ((sanityC _)).mono ?_
  rintro e w9 ⟨rfl, hb⟩
  have HB9 := Aside0.mk (below_step HB.out hb)
  clear hb
  go_wp2
  go_ret
  exact ⟨ret_bool (by simp), HB9.out⟩
 | t0 h h1 =>
  refine ((antiquaryref09_Metric.calls m true _ h)).mono ?_
  rintro e W9 ⟨rfl, hd⟩
  replace HB := Aside0.mk (below_step HB.out hd.below)
  clear hd
  have g0 : ¬ t ≥ 0 := h1
  go_wp2_with fail
  refine ((sanityC _)).mono ?_
  rintro e w9 ⟨rfl, hb⟩
  have HB9 := Aside0.mk (below_step HB.out hb)
  clear hb
  go_wp2
  go_ret
  exact ⟨ret_bool (by simp), HB9.out⟩
 | t1 h h1 h2 =>
  refine ((antiquaryref09_Metric.calls m true _ h)).mono ?_
  rintro e W9 ⟨rfl, hd⟩
  replace HB := Aside0.mk (below_step HB.out hd.below)
  clear hd
  have g0 : t ≥ 0 := h1
  go_wp2_with fail
  refine ((sanityC _)).mono ?_
  rintro e w9 ⟨rfl, hb⟩
  have HB9 := Aside0.mk (below_step HB.out hb)
  clear hb
  go_wp2
  go_ret
  exact ⟨ret_bool (by simp), HB9.out⟩
 | k0 h h1 h2 h3 =>
  refine ((antiquaryref09_Metric.calls m true _ h)).mono ?_
  rintro e W9 ⟨rfl, hd⟩
  replace HB := Aside0.mk (below_step HB.out hd.below)
  clear hd
  have g0 : t ≥ 0 := h1
  have g1 : ¬ k ≥ 0 := h3
  go_wp2_with fail
  refine ((sanityC _)).mono ?_
  rintro e w9 ⟨rfl, hb⟩
  have HB9 := Aside0.mk (below_step HB.out hb)
  clear hb
  go_wp2
  go_ret
  exact ⟨ret_bool (by simp), HB9.out⟩
 | k1 h h1 h2 h3 h4 =>
  refine ((antiquaryref09_Metric.calls m true _ h)).mono ?_
  rintro e W9 ⟨rfl, hd⟩
  replace HB := Aside0.mk (below_step HB.out hd.below)
  clear hd
  have g0 : t ≥ 0 := h1
  have g1 : k ≥ 0 := h3
  go_wp2_with fail
  refine ((sanityC _)).mono ?_
  rintro e w9 ⟨rfl, hb⟩
  have HB9 := Aside0.mk (below_step HB.out hb)
  clear hb
  go_wp2
  go_ret
  exact ⟨ret_bool (by simp), HB9.out⟩
 | all h h1 h2 h3 h4 b K h5 h6 =>
  refine ((antiquaryref09_Metric.calls m true _ h)).mono ?_
  rintro e W9 ⟨rfl, hd⟩
  replace HB := Aside0.mk (below_step HB.out hd.below)
  clear hd
  have g0 : t ≥ 0 := h1
  have g1 : k ≥ 0 := h3
  have hbb : (b != b) = false := bne_self_eq_false _
  have HC5 := Aside0.mk h5
  have HC6 := Aside0.mk h6
  clear h5 h6 h
  go_wp2_with fail
  refine ((graph_Covers.calls m t k a b _ HC5.out)).mono ?_
  rintro e W8 ⟨rfl, hd⟩
  replace HB := Aside0.mk (below_step HB.out hd)
  clear hd
  go_wp2_with fail
  refine ((antiquaryref27_Covers.calls K m t k a b _ HC6.out)).mono ?_
  rintro e W7 ⟨rfl, hd⟩
  replace HB := Aside0.mk (below_step HB.out hd.below)
  clear hd
  go_wp2_with fail
  refine ((sanityC _)).mono ?_
  rintro e w9 ⟨rfl, hb⟩
  have HB9 := Aside0.mk (below_step HB.out hb)
  clear hb
  go_wp2
  go_ret
  exact ⟨ret_bool (by simp), HB9.out⟩
theorem walksC (m : Int) (A1 : Option Addr) (c1 : Nat) (l : List (List Int)) (A2 : Option Addr) (c2 : Nat) (g : List Hd) (A3 : Option Addr) (c3 : Nat) (v : List Int) (a t k : Int) (w : World) (hr1 : Kd.C (Kd.slice 3 (Kd.int .i64)) w A1 l.length l) (hc1 : l.length ≤ c1) (hr2 : Kd.C k61 w A2 g.length g) (hc2 : g.length ≤ c2) (hr3 : Kd.C (Kd.int .i64) w A3 v.length v) (hc3 : v.length ≤ c3) :
  Calls Tryz.prog 3 #[.int .i64 m, .slice A1 l.length c1, .agg #[.slice A2 g.length c2], .slice A3 v.length c3, .int .i64 a, .int .i64 t, .int .i64 k] w fun e w' => e = .returned (.bool true) ∧ Below w.heap.size w w' := by
 obtain ⟨k1, b1, h1, f1⟩ := few09_ex l
 cases b1 with
 | false => exact walksNo1 m A1 c1 l A2 c2 g A3 c3 v a t k w hr1 hc1 hr2 hc2 hr3 hc3 k1 h1
 | true =>
 obtain ⟨k2, b2, h2, f2⟩ := few27_ex g
 cases b2 with
 | false => exact walksNo2 m A1 c1 l A2 c2 g A3 c3 v a t k w hr1 hc1 hr2 hc2 hr3 hc3 k1 h1 k2 h2
 | true =>
 by_cases hv : (v.length : Int) > 40
 ·exact walksNo3 m A1 c1 l A2 c2 g A3 c3 v a t k w hr1 hc1 hr2 hc2 hr3 hc3 k1 h1 k2 h2 hv
 have hl := f1 rfl
 have hs : ∀ h ∈ g, h.f1.length ≤ 4096 := by
  intro h hh
  have := (f2 rfl).2 h hh
  omega
 obtain ⟨x1, e1, y1, z1, a1, q1, n1⟩ := walk_both m l hl g hs v (by omega) a
 obtain ⟨x2, s2, t2, e2, a2, q2, n2⟩ := within_both m l hl g hs v (by omega) a t
 obtain ⟨x3, s3, t3, e3, a3, q3, n3⟩ := nearest_both m l hl g hs v (by omega) a k
 have same : ∀ xs : List Int, xs.length ≤ 4096 → ∃ K, antiquaryref27_Same.f K xs xs = some true := fun xs hx => by
  obtain ⟨K, hK⟩ := same_ex xs xs hx
  exact ⟨K, by rw [hK, decide_eq_true rfl]⟩
 refine walksYes m A1 c1 l A2 c2 g A3 c3 v a t k w hr1 hc1 hr2 hc2 hr3 hc3 k1 h1 k2 h2 hv ⟨⟨x1, e1, y1, z1, x2, s2, t2, e2, x3, s3, t3, e3, a1, q1, a2, q2, a3, q3, same x1 n1, same x2 n2, same x3 n3⟩⟩ ?_
 by_cases c : 1 ≤ m ∧ m ≤ 3
 ·have hm : antiquaryref09_Metric.f m = some true := by rw [metric09, decide_eq_true c]
  by_cases c1 : 0 ≤ t
  ·by_cases c2 : t ≤ 134217728
   ·by_cases c3 : 0 ≤ k
    ·by_cases c4 : k ≤ 134217728
     ·obtain ⟨b, g1, K, g2⟩ := covers_both m a c1 c2 c3 c4
      exact .all hm c1 c2 c3 c4 b K g1 g2
     ·exact .k1 hm c1 c2 c3 c4
    ·exact .k0 hm c1 c2 c3
   ·exact .t1 hm c1 c2
  ·exact .t0 hm c1
 ·exact .m (by rw [metric09, decide_eq_false c])
end Go.Proofs.YthbkomkgciemiaaGreat.PKF
namespace Go.Proofs.YthbkomkgciemiaaGreat.graphWalksAsSpecified
open Go.ChangeShapes Go.WideShapes Go.ChangeAt Go.RowKit
open Go.Proofs.YthbkomkgciemiaaGreat.PKF (open_rows open_hoods open_list walksC)
set_option linter.unusedVariables false
theorem own : ownKnob Tryz.prog.godebug = none := by kernel_rfl
theorem laidOut : laidOutB Tryz.prog = true := by kernel_rfl
theorem one_cell (cs : Array Value) (h : cs.size = 1) : ∃ c, cs = #[c] := by
 obtain ⟨l⟩ := cs
 match l, h with
 | [c], _ => exact ⟨c, rfl⟩
set_option maxRecDepth 100000 in
theorem cells_graph : Tryz.prog.cellsOf 25 = 1 := by kernel_rfl
set_option maxRecDepth 100000 in
theorem graph_agg {W : World} {base : Nat} {v : Value} (h : Value.okWide Tryz.prog W .any base 25 v) : ∃ c, v = .agg #[c] := by
 obtain ⟨cs, rfl, hs⟩ := okWide_struct Tryz.underlying25 h
 rw [cells_graph] at hs
 obtain ⟨c, rfl⟩ := one_cell cs hs
 exact ⟨c, rfl⟩
set_option maxHeartbeats 400000 in
set_option maxRecDepth 100000 in
theorem lifted (os : Os) (started : os.Started) (H : Type) (enc : TypeId × Value → H) :
  ReturnsInHanded {} Tryz.checked os 3 .any (Rows.graphWalksAsSpecifiedSpec.pre6 enc Tryz.prog Tryz.f3 Rows.graphWalksAsSpecifiedRow.domain false) (Rows.graphWalksAsSpecifiedSpec.post enc Tryz.prog Tryz.f3 false true false false) := by
 refine returnsInHanded_of_change_sized (C := Tryz.checked) own started (by kernel_rfl) Tryz.func3
  (ChangeSpec.witness6 (enc := enc) (C := Tryz.checked) false ⟨#[], #[.int .i64 0, .slice none 0 0, .agg #[.slice none 0 0], .slice none 0 0, .int .i64 0, .int .i64 0, .int .i64 0], []⟩ 8 (by kernel_rfl) (by kernel_rfl) (by kernel_rfl) (by kernel_rfl)) ?_
 intro W base args ds gs before hval0 hW hcnd hsz0 _
 have hval : ∀ (j : Nat) t v, Tryz.f3.params[j]? = some t → args[j]? = some v → Value.okWide Tryz.prog W .any base t v := hval0
 have hW' := hW
 obtain ⟨p, q, hA0, hV, rfl, hfz, hnd⟩ := hW
 have hA : DataW.TrodAll enc Tryz.prog W 0 (fun _ => true) true Tryz.f3.params.toList args.toList ds p := hA0
 rw [Tryz.params3] at hA hval
 obtain ⟨v0, vs0, d0, ds0, p0, q0, hargs, rfl, rfl, h0, r0⟩ := trodAll_cons hA
 obtain ⟨v1, vs1, d1, ds1, p1, q1, rfl, rfl, rfl, h1, r1⟩ := trodAll_cons r0
 obtain ⟨v2, vs2, d2, ds2, p2, q2, rfl, rfl, rfl, h2, r2⟩ := trodAll_cons r1
 obtain ⟨v3, vs3, d3, ds3, p3, q3, rfl, rfl, rfl, h3, r3⟩ := trodAll_cons r2
 obtain ⟨v4, vs4, d4, ds4, p4, q4, rfl, rfl, rfl, h4, r4⟩ := trodAll_cons r3
 obtain ⟨v5, vs5, d5, ds5, p5, q5, rfl, rfl, rfl, h5, r5⟩ := trodAll_cons r4
 obtain ⟨v6, vs6, d6, ds6, p6, q6, rfl, rfl, rfl, h6, r6⟩ := trodAll_cons r5
 obtain ⟨rfl, rfl, rfl⟩ := trodAll_nil r6
 obtain rfl : args = #[v0, v1, v2, v3, v4, v5, v6] := by cases args; simp_all
 obtain ⟨rfl, rfl⟩ := trodVars_none hV
 obtain ⟨a0, rfl, rfl, rfl, w0⟩ := open_int Tryz.underlying3 (hval 0 3 v0 rfl rfl) h0
 obtain ⟨b1, len1, cap1, rfl⟩ := okWide_slice Tryz.underlying22 (hval 1 22 v1 rfl rfl)
 have k1 := h1
 have lt1 : ∀ x ∈ p1, x.block < W.heap.size := by obtain ⟨m, hm⟩ := k1; exact DataW.trod_lt m _ _ _ hm
 have hv2 := hval 2 25 v2 rfl rfl
 obtain ⟨g2, rfl⟩ := graph_agg hv2
 have k2 := h2
 have lt2 : ∀ x ∈ p2, x.block < W.heap.size := by obtain ⟨m, hm⟩ := k2; exact DataW.trod_lt m _ _ _ hm
 obtain ⟨b3, len3, cap3, rfl⟩ := okWide_slice Tryz.underlying26 (hval 3 26 v3 rfl rfl)
 have k3 := h3
 have lt3 : ∀ x ∈ p3, x.block < W.heap.size := by obtain ⟨m, hm⟩ := k3; exact DataW.trod_lt m _ _ _ hm
 obtain ⟨a4, rfl, rfl, rfl, w4⟩ := open_int Tryz.underlying3 (hval 4 3 v4 rfl rfl) h4
 obtain ⟨a5, rfl, rfl, rfl, w5⟩ := open_int Tryz.underlying3 (hval 5 3 v5 rfl rfl) h5
 obtain ⟨a6, rfl, rfl, rfl, w6⟩ := open_int Tryz.underlying3 (hval 6 3 v6 rfl rfl) h6
 obtain ⟨fu1, hf1⟩ := h1
 obtain ⟨l1, A1, c1, hc1, hl1, hC1⟩ := open_rows hf1
 simp [Value.cells] at hc1
 obtain ⟨rfl, rfl, rfl⟩ := hc1
 obtain ⟨fu2, hf2⟩ := h2
 obtain ⟨xs, n4, _, _, _, hxl, hfield⟩ := DataW.trod_struct Tryz.underlying25 hf2
 have hz := hfield 0 _ rfl
 have hxl1 : xs.length = 1 := by rw [hxl]; rfl
 obtain ⟨x0, rfl⟩ : ∃ x, xs = [x] := by
  match xs, hxl1 with
  | [x], _ => exact ⟨x, rfl⟩
 have hce : Tryz.prog.cellsOf 23 = 1 := by kernel_rfl
 have hz' : DataW.trod enc Tryz.prog W 0 (fun _ => true) true n4 23 [g2] = some x0 := by
  have e : (((Value.agg #[g2]).cells.toList.drop 0).take (Tryz.prog.cellsOf 23)) = [g2] := by rw [hce]; rfl
  rw [← e]; exact hz
 obtain ⟨l2, A2, c2, hc2, hl2, hC2⟩ := open_hoods hz'
 have hc2' : g2 = .slice A2 l2.length c2 := by
  simp at hc2
  exact hc2
 subst hc2'
 clear hz hz' hfield
 obtain ⟨fu3, hf3⟩ := h3
 obtain ⟨l3, A3, c3, hc3, hl3, hC3⟩ := open_list hf3
 simp [Value.cells] at hc3
 obtain ⟨rfl, rfl, rfl⟩ := hc3
 clear hA0 hval0 hsz0 hA r0 r1 r2 r3 r4 r5 r6
 refine (walksC a0 _ _ l1 _ _ l2 _ _ l3 a4 a5 a6 W hC1 hl1 hC2 hl2 hC3 hl3).mono fun e W' ⟨he, bel⟩ => ?_
 subst he
 exact ⟨_, rfl, _, _, _, [], _, [], hW', trodAll_mk1 (shut_bool Tryz.underlying4 _), (trodAll_cons_mk (shut_int Tryz.underlying3 w0) (trodAll_cons_mk (Below.trod laidOut (by kernel_rfl) (of_decide_eq_true (by kernel_rfl)) k1 bel lt1) (trodAll_cons_mk (Below.trod laidOut (by kernel_rfl) (of_decide_eq_true (by kernel_rfl)) k2 bel lt2) (trodAll_cons_mk (Below.trod laidOut (by kernel_rfl) (of_decide_eq_true (by kernel_rfl)) k3 bel lt3) (trodAll_cons_mk (shut_int Tryz.underlying3 w4) (trodAll_cons_mk (shut_int Tryz.underlying3 w5) (trodAll_cons_mk (shut_int Tryz.underlying3 w6) trodAll_mk0))))))), rfl, bel.frame _, fun h => by cases h⟩
theorem over : Rows.graphWalksAsSpecifiedRow.holds Tryz.pinned (OpenSpec.ofChange Rows.graphWalksAsSpecifiedSpec) :=
 OpenClaim.holds_of_wide 3 Tryz.f3 rfl rfl rfl rfl rfl rfl rfl ⟨rfl, rfl, rfl, rfl, rfl⟩ rfl rfl rfl rfl rfl (by kernel_rfl) Tryz.func3 (by kernel_rfl)
  (of_decide_eq_true (by kernel_rfl)) (by unfold Func.isWrapper; first | (rw [if_pos (by decide +kernel)]; kernel_rfl) | (rw [if_neg (by decide +kernel)]; exact ⟨rfl, rfl⟩))
  (fun os started H enc _ => lifted os started H enc)
theorem proved : Rows.GraphWalksAsSpecifiedSaid := over
#print axioms proved
end Go.Proofs.YthbkomkgciemiaaGreat.graphWalksAsSpecified
namespace Go.Proofs.YthbkomkgciemiaaGreat
theorem graphWalksAsSpecified_holds : Rows.GraphWalksAsSpecifiedSaid := graphWalksAsSpecified.proved
end Go.Proofs.YthbkomkgciemiaaGreat
