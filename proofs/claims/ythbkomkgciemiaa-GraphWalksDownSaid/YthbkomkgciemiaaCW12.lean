/- GraphWalksDown: for every metric, vectors, graph, vector, slot, key t and k within the law's bounds: a walk begins at the slot, each step goes to a nearer slot of the neighbourhood, the last one has none; Within's slot lies on it, Nearest's slot is its last. Condition: none. -/
import Derived.Test.YthbkomkgciemiaaCW10
import Derived.Test.YthbkomkgciemiaaCW11
import Derived.Test.YthbkomkgciemiaaCW6
import Derived.Test.YthbkomkgciemiaaRows
import Derived.WalkKit
import Derived.ProofKit
import Derived.OpenShut
import Derived.ShutString
import Derived.ChangeOld
import Derived.Below
import Derived.SizedLaws
/- GraphWalksDown in plain terms: true, whatever is given. -/
namespace Go.Proofs.Ythbkomkgciemiaa.PKM
open Go.Proofs.Ythbkomkgciemiaa.RF
open Go.RowKit Go.Proofs.YthbkomkgciemiaaW.PrintWords Go.Proofs.YthbkomkgciemiaaW.PrintLast Go.Proofs.YthbkomkgciemiaaW.PrintMore
attribute [local go_sem] max2_int min2_int max_two min_two max_three min_three max_four min_four
set_option linter.unusedVariables false
set_option linter.unusedSimpArgs false
theorem rd_cons0 (a : Int) (r : List Int) : rd (a :: r) 0 = a := by simp [rd]
theorem rd_consS (a : Int) (r : List Int) (i : Nat) : rd (a :: r) ((i : Int) + 1) = rd r i := by
  unfold rd
  rw [show ((i : Int) + 1).toNat = i + 1 by omega]
  simp
/-- Each step of a walk goes to the least slot of the neighbourhood, which has a lesser key; at its end that one has none. -/
theorem walk_spec {n : Nat} {ks : List Int} {g : List Hd} (hg : GoodG n g) (hk : ks.length = n) : ∀ (c : Nat) (a : Int), 0 ≤ a → a < n → cntL ks a ≤ c →
    (∀ i : Nat, i + 1 < (walkV ks g a).length → rd (walkV ks g a) ((i : Int) + 1) = nextV ks g (rd (walkV ks g a) i) ∧ rd ks (rd (walkV ks g a) ((i : Int) + 1)) < rd ks (rd (walkV ks g a) i)) ∧
    (∀ i : Nat, i + 1 = (walkV ks g a).length → rd ks (rd (walkV ks g a) i) ≤ rd ks (nextV ks g (rd (walkV ks g a) i))) := by
  intro c
  induction c with
  | zero =>
    intro a h0 h1 hc
    have hn := nextV_in hg hk a h0 h1
    have hle : rd ks a ≤ rd ks (nextV ks g a) := by
      apply Decidable.byContradiction
      intro h
      have := cntL_lt ks a _ hn.1 (by omega) (by omega : rd ks (nextV ks g a) < rd ks a)
      omega
    rw [walkV_end hle]
    refine ⟨fun i hi => by simp at hi, fun i hi => ?_⟩
    have : i = 0 := by simp at hi; omega
    subst this
    rw [show ((0 : Nat) : Int) = 0 from rfl, rd_cons0]
    exact hle
  | succ c ih =>
    intro a h0 h1 hc
    have hn := nextV_in hg hk a h0 h1
    by_cases hle : rd ks a ≤ rd ks (nextV ks g a)
    · rw [walkV_end hle]
      refine ⟨fun i hi => by simp at hi, fun i hi => ?_⟩
      have : i = 0 := by simp at hi; omega
      subst this
      rw [show ((0 : Nat) : Int) = 0 from rfl, rd_cons0]
      exact hle
    · have hlt : rd ks (nextV ks g a) < rd ks a := by omega
      have hcn := cntL_lt ks a _ hn.1 (by omega) hlt
      obtain ⟨i1, i2⟩ := ih (nextV ks g a) hn.1 hn.2 (by omega)
      rw [walkV_go hlt ⟨hn.1, by omega⟩]
      obtain ⟨r, hr⟩ := walkV_cons ks g (nextV ks g a)
      refine ⟨fun i hi => ?_, fun i hi => ?_⟩
      · cases i with
        | zero =>
          rw [show (((0 : Nat) : Int) + 1) = ((0 : Nat) : Int) + 1 from rfl, rd_consS, show ((0 : Nat) : Int) = 0 from rfl, rd_cons0, hr, rd_cons0]
          exact ⟨rfl, hlt⟩
        | succ i =>
          rw [rd_consS, show ((i + 1 : Nat) : Int) = (i : Int) + 1 by omega, rd_consS]
          exact i1 i (by simpa using hi)
      · cases i with
        | zero => rw [hr] at hi; simp at hi
        | succ i =>
          rw [show ((i + 1 : Nat) : Int) = (i : Int) + 1 by omega, rd_consS]
          exact i2 i (by simpa using hi)
theorem walk_short {ks : List Int} {g : List Hd} {a : Int} (h0 : 0 ≤ a) (h1 : a < ks.length) : (walkV ks g a).length ≤ ks.length := by
  have hc : cntL ks a < ks.length := by
    unfold cntL
    exact List.length_filter_lt_length_iff_exists.2 ⟨rd ks a, rd_mem h0 h1, by simp⟩
  have := walkV_le ks g (ks.length - 1) a (by omega)
  omega
set_option maxHeartbeats 1000000 in
theorem down_l1 (m : Int) (hm : 1 ≤ m ∧ m ≤ 3) (l : List (List Int)) (v : List Int) (hal : ∀ x ∈ l, alikeF x v = true) (hl : l.length ≤ 25) (g : List Hd) (hgl : g.length = l.length) (w : List Int) (hw : w.length ≤ 25) (at_ : Int) (flag : Bool) (i : Nat) (hi : i < w.length) (hwi : 0 ≤ rd w i ∧ rd w i < l.length)
    (hs : ∀ y ∈ (rd_T39 g (rd w i)).f1, 0 ≤ y ∧ y < (l.length : Int)) (hsl : (rd_T39 g (rd w i)).f1.length ≤ 4096)
    (hnx : i + 1 < w.length → rd (keysV m l v) (rd w ((i : Int) + 1)) < rd (keysV m l v) (rd w i)) (hend : i + 1 = w.length → ∀ y ∈ (rd_T39 g (rd w i)).f1, rd (keysV m l v) (rd w i) ≤ rd (keysV m l v) y)
    (k0 : Nat) (h0 : lawWD.l0 k0 m l v w at_ flag ((i : Int) + 1) g = some true) (d : Nat) : ∀ (j : Nat) (b : Bool), j + d = (rd_T39 g (rd w i)).f1.length → (i + 1 < w.length → b = true ∨ ∃ q : Nat, j ≤ q ∧ q < (rd_T39 g (rd w i)).f1.length ∧ rd (rd_T39 g (rd w i)).f1 q = rd w ((i : Int) + 1)) →
    ∃ k, lawWD.l1 k m l v w at_ flag i (rd (keysV m l v) (rd w i)) b j g = some true := by
  have hkl := keysV_length m l v
  have ew := Aside0.mk (show wrap64 ((w.length : Int) - 1) = (w.length : Int) - 1 from w64 (by omega))
  have ei := Aside0.mk (show wrap64 ((i : Int) + 1) = (i : Int) + 1 from w64 (by omega))
  obtain ⟨f, hf⟩ : ∃ f, f = (rd_T39 g (rd w i)).f1 := ⟨_, rfl⟩
  rw [← hf] at hs hsl hend ⊢
  have up : ∀ (b : Bool) (j k : Nat) (k' : Nat), lawWD.l1 k m l v w at_ flag i (rd (keysV m l v) (rd w i)) b ((j : Int) + 1) g = some true → k ≤ k' → lawWD.l1 k' m l v w at_ flag i (rd (keysV m l v) (rd w i)) b ((j : Int) + 1) g = some true := fun b j k k' h hk =>
    up_le (f := fun k => lawWD.l1 k m l v w at_ flag i (rd (keysV m l v) (rd w i)) b ((j : Int) + 1) g) (fun k => (lawWD.mono_l k).2.2.2.2.2 _ _ _ _ _ _ _ _ _ _ _) h hk
  induction d with
  | zero =>
    intro j b hj hb
    refine ⟨k0 + 1, ?_⟩
    rw [lawWD.l1, ← hf, ew.out, ei.out, if_pos (by omega), if_pos (by omega), if_pos hwi.1, if_pos (by omega), if_neg (by omega)]
    by_cases c : i + 1 < w.length
    · have hbt : b = true := by
        rcases hb c with h | ⟨q, h1, h2, _⟩
        · exact h
        · omega
      rw [if_pos (by omega), if_pos hbt]
      exact h0
    · rw [if_neg (by omega)]
      exact h0
  | succ d ih =>
    intro j b hj hb
    have hym := rd_mem (l := f) (i := (j : Int)) (by omega) (by omega)
    have hy := hs _ hym
    have hkey := fun k (hk : 40 ≤ k) => key_f m hm (rdL l (rd f j)) v (hal _ (rdL_mem hy.1 hy.2)) k hk
    have he : keyV m (rdL l (rd f j)) v = rd (keysV m l v) (rd f j) := (rd_keysV m l v _ hy.1 hy.2).symm
    have ej := Aside0.mk (show wrap64 ((j : Int) + 1) = (j : Int) + 1 from w64 (by omega))
    have go : ∀ b' : Bool, (i + 1 < w.length → b' = true ∨ ∃ q : Nat, j + 1 ≤ q ∧ q < f.length ∧ rd f q = rd w ((i : Int) + 1)) → ∃ k, lawWD.l1 k m l v w at_ flag i (rd (keysV m l v) (rd w i)) b' ((j : Int) + 1) g = some true := fun b' h => ih (j + 1) b' (by omega) h
    by_cases c : rd (keysV m l v) (rd f j) < rd (keysV m l v) (rd w i)
    · have hlast : i + 1 ≠ w.length := by
        intro h
        have := hend h _ hym
        omega
      cases b with
      | true =>
        obtain ⟨k, h1⟩ := go true (fun _ => .inl rfl)
        refine ⟨k + 40 + 1, ?_⟩
        rw [lawWD.l1, ← hf, ew.out, ei.out, ej.out, if_pos (by omega), if_pos (by omega), if_pos hwi.1, if_pos (by omega), if_pos (by omega), if_pos (by omega), if_pos hy.1, if_pos hy.2, rd_L1_eq, hkey (k + 40) (by omega), Option.bind_some, he, if_pos c, if_neg (by omega), if_pos rfl]
        exact up true j k _ h1 (by omega)
      | false =>
        have hb2 : i + 1 < w.length → (rd f j == rd w ((i : Int) + 1)) = true ∨ ∃ q : Nat, j + 1 ≤ q ∧ q < f.length ∧ rd f q = rd w ((i : Int) + 1) := by
          intro hc
          rcases hb hc with h | ⟨q, h1, h2, h3⟩
          · cases h
          · by_cases e : q = j
            · subst e; exact .inl (by rw [h3]; simp)
            · exact .inr ⟨q, by omega, h2, h3⟩
        obtain ⟨k, h1⟩ := go _ hb2
        refine ⟨k + 40 + 1, ?_⟩
        rw [lawWD.l1, ← hf, ew.out, ei.out, ej.out, if_pos (by omega), if_pos (by omega), if_pos hwi.1, if_pos (by omega), if_pos (by omega), if_pos (by omega), if_pos hy.1, if_pos hy.2, rd_L1_eq, hkey (k + 40) (by omega), Option.bind_some, he, if_pos c, if_neg (by omega), if_neg (by simp), if_pos (by omega), if_pos (by omega), if_pos (by omega)]
        exact up _ j k _ h1 (by omega)
    · have hb2 : i + 1 < w.length → b = true ∨ ∃ q : Nat, j + 1 ≤ q ∧ q < f.length ∧ rd f q = rd w ((i : Int) + 1) := by
        intro hc
        rcases hb hc with h | ⟨q, h1, h2, h3⟩
        · exact .inl h
        · refine .inr ⟨q, ?_, h2, h3⟩
          by_cases e : q = j
          · subst e; rw [h3] at c; exact absurd (hnx hc) c
          · omega
      obtain ⟨k, h1⟩ := go b hb2
      refine ⟨k + 40 + 1, ?_⟩
      rw [lawWD.l1, ← hf, ew.out, ei.out, ej.out, if_pos (by omega), if_pos (by omega), if_pos hwi.1, if_pos (by omega), if_pos (by omega), if_pos (by omega), if_pos hy.1, if_pos hy.2, rd_L1_eq, hkey (k + 40) (by omega), Option.bind_some, he, if_neg c]
      cases b with
      | true => rw [if_pos rfl]; exact up true j k _ h1 (by omega)
      | false => rw [if_neg (by simp)]; exact up false j k _ h1 (by omega)
set_option maxHeartbeats 1000000 in
theorem down_l0 (m : Int) (hm : 1 ≤ m ∧ m ≤ 3) (l : List (List Int)) (v : List Int) (hal : ∀ x ∈ l, alikeF x v = true) (hl : l.length ≤ 25) (g : List Hd) (hg : GoodG l.length g) (s : Int) (hs0 : 0 ≤ s) (hs1 : s < l.length) (at_ : Int) (d : Nat) : ∀ (i : Nat) (flag : Bool), i + d = (walkV (keysV m l v) g s).length → (flag = true ∨ ∃ q : Nat, i ≤ q ∧ q < (walkV (keysV m l v) g s).length ∧ rd (walkV (keysV m l v) g s) q = at_) →
    ∃ k, lawWD.l0 k m l v (walkV (keysV m l v) g s) at_ flag i g = some true := by
  have hkl := keysV_length m l v
  obtain ⟨sp1, sp2⟩ := walk_spec hg hkl (cntL (keysV m l v) s) s hs0 hs1 (Nat.le_refl _)
  have hwl := walk_short (ks := keysV m l v) (g := g) hs0 (by omega)
  have hin := walkV_in hg hkl s hs0 hs1
  generalize walkV (keysV m l v) g s = w at sp1 sp2 hwl hin ⊢
  induction d with
  | zero =>
    intro i flag hi hfl
    have : flag = true := by
      rcases hfl with h | ⟨q, h1, h2, _⟩
      · exact h
      · omega
    refine ⟨1, ?_⟩
    rw [lawWD.l0, if_neg (by omega), this]; rfl
  | succ d ih =>
    intro i flag hi hfl
    have hwi := hin _ (rd_mem (l := w) (i := (i : Int)) (by omega) (by omega))
    have hgl := hg.1
    obtain ⟨hz1, hz2, hz3⟩ := hg.2 _ (rd_T_mem (g := g) (i := rd w i) hwi.1 (by rw [hgl]; exact hwi.2))
    have key : ∀ fl : Bool, (fl = true ∨ ∃ q : Nat, i + 1 ≤ q ∧ q < w.length ∧ rd w q = at_) → ∃ k, ∀ k', k ≤ k' → lawWD.j4 k' m l v w at_ fl i g = some true := by
      intro fl hfl2
      obtain ⟨k0, h0⟩ := ih (i + 1) fl (by omega) hfl2
      have hex : ∀ hlt : i + 1 < w.length, ∃ q : Nat, 0 ≤ q ∧ q < (rd_T39 g (rd w i)).f1.length ∧ rd (rd_T39 g (rd w i)).f1 q = rd w ((i : Int) + 1) := by
        intro hlt
        have hm2 : nextV (keysV m l v) g (rd w i) ∈ (rd_T39 g (rd w i)).f1 := minF_mem _ _ hz1
        rw [← (sp1 i hlt).1] at hm2
        obtain ⟨q, hq, e⟩ := mem_iff_rd.1 hm2
        exact ⟨q, by omega, hq, e⟩
      obtain ⟨k, h1⟩ := down_l1 m hm l v hal hl g hgl w (by omega) at_ fl i (by omega) hwi hz3 (by omega) (fun h => (sp1 i h).2) (fun h y hy => Int.le_trans (sp2 i h) (nextV_le _ _ _ y hy)) k0 h0 (rd_T39 g (rd w i)).f1.length 0 false (by omega) (fun h => .inr (hex h))
      refine ⟨k + 40 + 1, fun k' hk' => ?_⟩
      obtain ⟨q, rfl⟩ : ∃ q, k' = q + 1 := ⟨k' - 1, by omega⟩
      rw [lawWD.j4, if_pos (by omega), if_pos (by omega), if_pos hwi.1, if_pos hwi.2, rd_L1_eq, key_f m hm (rdL l (rd w i)) v (hal _ (rdL_mem hwi.1 hwi.2)) q (by omega), Option.bind_some, ← rd_keysV m l v _ hwi.1 hwi.2]
      exact up_le (f := fun k => lawWD.l1 k m l v w at_ fl i (rd (keysV m l v) (rd w i)) false 0 g) (fun k => (lawWD.mono_l k).2.2.2.2.2 _ _ _ _ _ _ _ _ _ _ _) h1 (by omega)
    cases flag with
    | true =>
      obtain ⟨k, h⟩ := key true (.inl rfl)
      refine ⟨k + 2, ?_⟩
      rw [lawWD.l0, if_pos (by omega), if_pos (by omega), if_neg (by omega), decide_eq_false (by omega), lawWD.j3, if_neg (by simp), if_pos rfl]
      exact h k (Nat.le_refl _)
    | false =>
      have hfl2 : (rd w i == at_) = true ∨ ∃ q : Nat, i + 1 ≤ q ∧ q < w.length ∧ rd w q = at_ := by
        rcases hfl with h | ⟨q, h1, h2, h3⟩
        · cases h
        · by_cases e : q = i
          · subst e; exact .inl (by rw [h3]; simp)
          · exact .inr ⟨q, by omega, h2, h3⟩
      obtain ⟨k, h⟩ := key _ hfl2
      refine ⟨k + 2, ?_⟩
      rw [lawWD.l0, if_pos (by omega), if_pos (by omega), if_neg (by omega), decide_eq_false (by omega), lawWD.j3, if_neg (by simp), if_neg (by simp), if_pos (by omega), if_pos (by omega)]
      exact h k (Nat.le_refl _)
theorem last_is (xs : List Int) (d : Int) (h : 1 ≤ xs.length) (hl : xs.length ≤ 9223372036854775807) : rd xs (wrap64 ((xs.length : Int) - 1)) = lastF d xs := by
  rw [w64 (by omega)]
  unfold lastF rd
  rw [List.getLastD_eq_getLast?, List.getLast?_eq_getElem?, show ((xs.length : Int) - 1).toNat = xs.length - 1 by omega]
  simp [show xs.length - 1 < xs.length by omega]
theorem withinAt_mem (m : Int) (ks : List Int) (g : List Hd) (s t : Int) : (withinV m ks g s t).2.1 ∈ walkV ks g s := by
  obtain ⟨r, hr⟩ := walkV_cons ks g s
  unfold withinV
  cases hf : (walkV ks g s).find? (coverF m ks g t) with
  | some a => exact List.mem_of_find?_eq_some hf
  | none =>
    show lastF s (walkV ks g s) ∈ _
    unfold lastF
    rw [hr, List.getLastD_cons]
    exact List.getLastD_mem_cons
theorem walksDown_pure (m : Int) (l : List (List Int)) (g : List Hd) (v : List Int) (a4 a5 a6 : Int) (hv : v.length ≤ 9223372036854775807) (h40 : 0 ≤ a4) (h41 : a4 ≤ 255) (h60 : 0 ≤ a6) (h61 : a6 ≤ 255) : ∃ k, lawWD.f k m l g v a4 a5 a6 = some true := by
  have hj0 : ∀ k, lawWD.j0 (k + 1) m l v a4 a5 a6 true g = some true := fun k => by rw [lawWD.j0, if_pos rfl]; rfl
  obtain ⟨k1, r1, f1, f2⟩ := few09_ex l
  cases r1 with
  | false =>
    refine ⟨k1 + 1, ?_⟩
    unfold lawWD.f
    rw [up_le (antiquaryref09_Few.mono _ _) f1 (show k1 ≤ k1 + 1 by omega), Option.bind_some, if_neg (by simp)]
    exact hj0 k1
  | true =>
  have hfew := f2 rfl
  obtain ⟨k2, r2, g1, g2⟩ := few27_ex g
  cases r2 with
  | false =>
    refine ⟨k1 + k2 + 1, ?_⟩
    unfold lawWD.f
    rw [up_le (antiquaryref09_Few.mono _ _) f1 (show k1 ≤ k1 + k2 + 1 by omega), Option.bind_some, if_pos rfl, up_le (antiquaryref27_Few.mono _) g1 (show k2 ≤ k1 + k2 + 1 by omega), Option.bind_some, if_neg (by simp)]
    exact hj0 _
  | true =>
  have hfg := g2 rfl
  have hs1 : ∀ h ∈ g, h.f1.length ≤ 4096 := by
    intro h hh
    have := hfg.2 h hh
    omega
  obtain ⟨k3, r3, d1, d2⟩ := right27_ex m l hfew g hs1
  cases r3 with
  | false =>
    refine ⟨k1 + k2 + k3 + 1, ?_⟩
    unfold lawWD.f
    rw [up_le (antiquaryref09_Few.mono _ _) f1 (show k1 ≤ k1 + k2 + k3 + 1 by omega), Option.bind_some, if_pos rfl, up_le (antiquaryref27_Few.mono _) g1 (show k2 ≤ k1 + k2 + k3 + 1 by omega), Option.bind_some, if_pos rfl, up_le (antiquaryref27_Right.mono _ _ _) d1 (show k3 ≤ k1 + k2 + k3 + 1 by omega), Option.bind_some, if_neg (by simp)]
    exact hj0 _
  | true =>
  obtain ⟨hr, hv1⟩ := d2.1 rfl
  obtain ⟨hm, ⟨hl1, hl2⟩, hall⟩ := rightF_iff.1 hr
  have hl0 : (rdL l 0).length ≤ 40 := hfew.2 _ (rdL_mem (by omega) (by omega))
  obtain ⟨k4, al⟩ := alike04_ex (rdL l 0) v (by omega) hv
  have hpre : ∀ K, k1 + k2 + k3 + k4 ≤ K → lawWD.f K m l g v a4 a5 a6 = if alikeF (rdL l 0) v = true then (if a5 < 0 then (lawWD.j0 K m l v a4 a5 a6 true g) else (lawWD.j0 K m l v a4 a5 a6 (decide (a5 > 134217728)) g)) else lawWD.j0 K m l v a4 a5 a6 true g := by
    intro K hK
    unfold lawWD.f
    rw [up_le (antiquaryref09_Few.mono _ _) f1 (show k1 ≤ K by omega), Option.bind_some, if_pos rfl, up_le (antiquaryref27_Few.mono _) g1 (show k2 ≤ K by omega), Option.bind_some, if_pos rfl, up_le (antiquaryref27_Right.mono _ _ _) d1 (show k3 ≤ K by omega), Option.bind_some, if_pos rfl, if_pos (by omega), rd_L1_eq, al K (by omega), Option.bind_some]
  cases ha : alikeF (rdL l 0) v with
  | false =>
    refine ⟨k1 + k2 + k3 + k4 + 1, ?_⟩
    rw [hpre _ (by omega), ha, if_neg (by simp)]
    exact hj0 _
  | true =>
  by_cases ct0 : a5 < 0
  · refine ⟨k1 + k2 + k3 + k4 + 1, ?_⟩
    rw [hpre _ (by omega), ha, if_pos rfl, if_pos ct0]
    exact hj0 _
  by_cases ct1 : a5 > 134217728
  · refine ⟨k1 + k2 + k3 + k4 + 1, ?_⟩
    rw [hpre _ (by omega), ha, if_pos rfl, if_neg ct0, decide_eq_true ct1]
    exact hj0 _
  have hal := alike_all (m := m) hr ha
  have hg := good_of_valid hv1
  have hln : (0 : Int) < l.length := by omega
  obtain ⟨s, hs⟩ : ∃ s, s = Int.tmod (wrap64 a4) (l.length : Int) := ⟨_, rfl⟩
  have hs3 : 0 ≤ s ∧ s < l.length := by rw [hs, w64 (by omega)]; exact ⟨Int.tmod_nonneg _ h40, Int.tmod_lt_of_pos _ hln⟩
  obtain ⟨kk, hkk⟩ : ∃ q, q = wrap64 (1 + Int.tmod (wrap64 a6) 64) := ⟨_, rfl⟩
  have hk3 : 1 ≤ kk ∧ kk ≤ 64 := by
    have e1 := Int.tmod_nonneg (a := a6) 64 h60
    have e2 := Int.tmod_lt_of_pos a6 (show (0 : Int) < 64 by omega)
    rw [hkk, w64 (i := a6) (by omega), w64 (by omega)]; omega
  have hask : Asked m l g v s := ⟨hr, hv1, ha, hs3.1, hs3.2⟩
  have eW : graph_Walk.f m l g v s = some (walkV (keysV m l v) g s, 0) := by
    unfold graph_Walk.f; rw [if_pos (shortB_mk hs1), if_pos hask]
  have eI : graph_Within.f m l g v s a5 = some ((withinV m (keysV m l v) g s a5).1, (withinV m (keysV m l v) g s a5).2.1, (withinV m (keysV m l v) g s a5).2.2, 0) := by
    unfold graph_Within.f
    rw [if_pos (shortB_mk hs1), if_pos ⟨hask, by omega, by omega⟩, if_pos (hiOk_of (keysV_bd hal) (fun y hy => by simp at hy; subst hy; omega))]
  have eN : ∃ b u, graph_Nearest.f m l g v s kk = some (b, lastF s (walkV (keysV m l v) g s), u, 0) := by
    refine ⟨(nearestV m (keysV m l v) g s kk l.length).1, (nearestV m (keysV m l v) g s kk l.length).2.2, ?_⟩
    unfold graph_Nearest.f
    rw [if_pos (shortB_mk hs1), if_pos ⟨hask, hk3.1, hk3.2⟩, if_pos ⟨hiOk_of (keysV_bd hal) (keysV_bd hal), hfew.1⟩]
    have : (nearestV m (keysV m l v) g s kk l.length).2.1 = lastF s (walkV (keysV m l v) g s) := by
      unfold nearestV
      simp only []
      split <;> rfl
    rw [this]
  obtain ⟨b, u, eN⟩ := eN
  have hkl := keysV_length m l v
  have hwl := walk_short (ks := keysV m l v) (g := g) hs3.1 (by omega)
  obtain ⟨rest, hrest⟩ := walkV_cons (keysV m l v) g s
  have hw1 : 1 ≤ (walkV (keysV m l v) g s).length := by rw [hrest]; simp
  have hw0 : rd (walkV (keysV m l v) g s) 0 = s := by rw [hrest, rd_cons0]
  have hwlast := last_is (walkV (keysV m l v) g s) s hw1 (by omega)
  have hat := withinAt_mem m (keysV m l v) g s a5
  have h25 := hfew.1
  obtain ⟨k5, e5⟩ := down_l0 m hm l v hal h25 g hg s hs3.1 hs3.2 (withinV m (keysV m l v) g s a5).2.1 (walkV (keysV m l v) g s).length 0 false (by omega) (.inr (by
    obtain ⟨q, hq, e⟩ := mem_iff_rd.1 hat
    exact ⟨q, by omega, hq, e⟩))
  refine ⟨k1 + k2 + k3 + k4 + k5 + 2, ?_⟩
  have ewl0 : wrap64 (((walkV (keysV m l v) g s).length : Int) - 1) = ((walkV (keysV m l v) g s).length : Int) - 1 := w64 (by omega)
  have ewl := Aside0.mk ewl0
  clear ewl0
  rw [hpre _ (by omega), ha, if_pos rfl, if_neg ct0, decide_eq_false ct1, lawWD.j0, if_neg (by simp), if_neg (by omega), ← hs, ← hkk, eW, Option.bind_some, eI, Option.bind_some, eN, Option.bind_some, if_pos rfl, if_pos rfl, if_pos rfl, if_neg (by show ¬ ((walkV (keysV m l v) g s).length : Int) = 0; omega), if_neg (by show ¬ ((walkV (keysV m l v) g s).length : Int) > (l.length : Int); omega), if_pos (by show 0 < ((walkV (keysV m l v) g s).length : Int); omega), if_pos hw0, if_pos (by dsimp only; rw [ewl.out]; omega), if_pos (by dsimp only; rw [ewl.out]; omega), hwlast]
  show lawWD.j1 _ m l v (walkV (keysV m l v) g s) (withinV m (keysV m l v) g s a5).2.1 (lastF s (walkV (keysV m l v) g s) != lastF s (walkV (keysV m l v) g s)) g = some true
  rw [bne_self_eq_false, lawWD.j1, if_neg (by simp)]
  exact up_le (f := fun k => lawWD.l0 k m l v (walkV (keysV m l v) g s) (withinV m (keysV m l v) g s a5).2.1 false 0 g) (fun k => (lawWD.mono_l k).2.2.1 _ _ _ _ _ _ _ _) e5 (by omega)
end Go.Proofs.Ythbkomkgciemiaa.PKM
namespace Go.Proofs.Ythbkomkgciemiaa.graphWalksDown
open Go.ChangeShapes Go.WideShapes Go.ChangeAt Go.RowKit
open Go.Proofs.Ythbkomkgciemiaa.PKM (open_rows open_hoods open_list walksDown_pure)
set_option linter.unusedVariables false
theorem own : ownKnob Try.prog.godebug = none := by kernel_rfl
theorem laidOut : laidOutB Try.prog = true := by kernel_rfl
theorem one_cell (cs : Array Value) (h : cs.size = 1) : ∃ c, cs = #[c] := by
  obtain ⟨l⟩ := cs
  match l, h with
  | [c], _ => exact ⟨c, rfl⟩
set_option maxRecDepth 100000 in
theorem cells_graph : Try.prog.cellsOf 25 = 1 := by kernel_rfl
set_option maxRecDepth 100000 in
theorem graph_agg {W : World} {base : Nat} {v : Value} (h : Value.okWide Try.prog W .any base 25 v) : ∃ c, v = .agg #[c] := by
  obtain ⟨cs, rfl, hs⟩ := okWide_struct Try.underlying25 h
  rw [cells_graph] at hs
  obtain ⟨c, rfl⟩ := one_cell cs hs
  exact ⟨c, rfl⟩
set_option maxHeartbeats 400000 in
set_option maxRecDepth 100000 in
theorem lifted (os : Os) (started : os.Started) (H : Type) (enc : TypeId × Value → H) :
    ReturnsInHanded {} Try.checked os 3 .any (Rows.graphWalksDownSpec.pre6 enc Try.prog Try.f3 Rows.graphWalksDownRow.domain false) (Rows.graphWalksDownSpec.post enc Try.prog Try.f3 false true false false) := by
  refine returnsInHanded_of_change_sized (C := Try.checked) own started (by kernel_rfl) Try.func3
    (ChangeSpec.witness6 (enc := enc) (C := Try.checked) false ⟨#[], #[.int .i64 0, .slice none 0 0, .agg #[.slice none 0 0], .slice none 0 0, .int .u8 0, .int .i64 0, .int .u8 0], []⟩ 8 (by kernel_rfl) (by kernel_rfl) (by kernel_rfl) (by kernel_rfl)) ?_
  intro W base args ds gs before hval0 hW hcnd hsz0 _
  have hval : ∀ (j : Nat) t v, Try.f3.params[j]? = some t → args[j]? = some v → Value.okWide Try.prog W .any base t v := hval0
  have hW' := hW
  obtain ⟨p, q, hA0, hV, rfl, hfz, hnd⟩ := hW
  have hA : DataW.TrodAll enc Try.prog W 0 (fun _ => true) true Try.f3.params.toList args.toList ds p := hA0
  rw [Try.params3] at hA hval
  obtain ⟨v0, vs0, d0, ds0, p0, q0, hargs, rfl, rfl, h0, r0⟩ := trodAll_cons hA
  obtain ⟨v1, vs1, d1, ds1, p1, q1, rfl, rfl, rfl, h1, r1⟩ := trodAll_cons r0
  obtain ⟨v2, vs2, d2, ds2, p2, q2, rfl, rfl, rfl, h2, r2⟩ := trodAll_cons r1
  obtain ⟨v3, vs3, d3, ds3, p3, q3, rfl, rfl, rfl, h3, r3⟩ := trodAll_cons r2
  obtain ⟨v4, vs4, d4, ds4, p4, q4, rfl, rfl, rfl, h4, r4⟩ := trodAll_cons r3
  obtain ⟨v5, vs5, d5, ds5, p5, q5, rfl, rfl, rfl, h5, r5⟩ := trodAll_cons r4
  obtain ⟨v6, vs6, d6, ds6, p6, q6, rfl, rfl, rfl, h6, r6⟩ := trodAll_cons r5
  obtain ⟨rfl, rfl, rfl⟩ := trodAll_nil r6
  obtain rfl : args = #[v0, v1, v2, v3, v4, v5, v6] := by cases args; simp_all
  obtain ⟨rfl, rfl⟩ := trodVars_none hV
  obtain ⟨a0, rfl, rfl, rfl, w0⟩ := open_int Try.underlying3 (hval 0 3 v0 rfl rfl) h0
  obtain ⟨b1, len1, cap1, rfl⟩ := okWide_slice Try.underlying22 (hval 1 22 v1 rfl rfl)
  have k1 := h1
  have lt1 : ∀ x ∈ p1, x.block < W.heap.size := by obtain ⟨m, hm⟩ := k1; exact DataW.trod_lt m _ _ _ hm
  have hv2 := hval 2 25 v2 rfl rfl
  obtain ⟨g2, rfl⟩ := graph_agg hv2
  have k2 := h2
  have lt2 : ∀ x ∈ p2, x.block < W.heap.size := by obtain ⟨m, hm⟩ := k2; exact DataW.trod_lt m _ _ _ hm
  obtain ⟨b3, len3, cap3, rfl⟩ := okWide_slice Try.underlying26 (hval 3 26 v3 rfl rfl)
  have k3 := h3
  have lt3 : ∀ x ∈ p3, x.block < W.heap.size := by obtain ⟨m, hm⟩ := k3; exact DataW.trod_lt m _ _ _ hm
  obtain ⟨a4, rfl, rfl, rfl, w4⟩ := open_int Try.underlying5 (hval 4 5 v4 rfl rfl) h4
  obtain ⟨u40, u41⟩ := bounds_u8 w4
  obtain ⟨a5, rfl, rfl, rfl, w5⟩ := open_int Try.underlying3 (hval 5 3 v5 rfl rfl) h5
  obtain ⟨a6, rfl, rfl, rfl, w6⟩ := open_int Try.underlying5 (hval 6 5 v6 rfl rfl) h6
  obtain ⟨u60, u61⟩ := bounds_u8 w6
  obtain ⟨fu1, hf1⟩ := h1
  obtain ⟨l1, A1, c1, hc1, hl1, hC1⟩ := open_rows hf1
  simp [Value.cells] at hc1
  obtain ⟨rfl, rfl, rfl⟩ := hc1
  obtain ⟨fu2, hf2⟩ := h2
  obtain ⟨xs, n4, _, _, _, hxl, hfield⟩ := DataW.trod_struct Try.underlying25 hf2
  have hz := hfield 0 _ rfl
  have hxl1 : xs.length = 1 := by rw [hxl]; rfl
  obtain ⟨x0, rfl⟩ : ∃ x, xs = [x] := by
    match xs, hxl1 with
    | [x], _ => exact ⟨x, rfl⟩
  have hce : Try.prog.cellsOf 23 = 1 := by kernel_rfl
  have hz' : DataW.trod enc Try.prog W 0 (fun _ => true) true n4 23 [g2] = some x0 := by
    have e : (((Value.agg #[g2]).cells.toList.drop 0).take (Try.prog.cellsOf 23)) = [g2] := by rw [hce]; rfl
    rw [← e]; exact hz
  obtain ⟨l2, A2, c2, hc2, hl2, hC2⟩ := open_hoods hz'
  have hc2' : g2 = .slice A2 l2.length c2 := by
    simp at hc2
    exact hc2
  subst hc2'
  clear hz hz' hfield
  obtain ⟨fu3, hf3⟩ := h3
  obtain ⟨l3, A3, c3, hc3, hl3, hC3⟩ := open_list hf3
  simp [Value.cells] at hc3
  obtain ⟨rfl, rfl, rfl⟩ := hc3
  clear hA0 hval0 hsz0 hA r0 r1 r2 r3 r4 r5 r6
  obtain ⟨k, hk⟩ := walksDown_pure a0 l1 l2 l3 a4 a5 a6 (by have := hC3.2.1; exact this) u40 u41 u60 u61
  refine (Go.Proofs.Ythbkomkgciemiaa.PKM.lawWD.calls k a0 _ _ l1 _ _ l2 _ _ l3 a4 a5 a6 true W hC1 hl1 hC2 hl2 hC3 hl3 hk).mono fun e W' ⟨he, bel⟩ => ?_
  subst he
  exact ⟨_, rfl, _, _, _, [], _, [], hW', trodAll_mk1 (shut_bool Try.underlying4 _), (trodAll_cons_mk (shut_int Try.underlying3 w0) (trodAll_cons_mk (Below.trod laidOut (by kernel_rfl) (of_decide_eq_true (by kernel_rfl)) k1 bel lt1) (trodAll_cons_mk (Below.trod laidOut (by kernel_rfl) (of_decide_eq_true (by kernel_rfl)) k2 bel lt2) (trodAll_cons_mk (Below.trod laidOut (by kernel_rfl) (of_decide_eq_true (by kernel_rfl)) k3 bel lt3) (trodAll_cons_mk (shut_int Try.underlying5 w4) (trodAll_cons_mk (shut_int Try.underlying3 w5) (trodAll_cons_mk (shut_int Try.underlying5 w6) trodAll_mk0))))))), rfl, bel.frame _, fun h => by cases h⟩
theorem over : Rows.graphWalksDownRow.holds Try.pinned (OpenSpec.ofChange Rows.graphWalksDownSpec) :=
  OpenClaim.holds_of_wide 3 Try.f3 rfl rfl rfl rfl rfl rfl rfl ⟨rfl, rfl, rfl, rfl, rfl⟩ rfl rfl rfl rfl rfl (by kernel_rfl) Try.func3 (by kernel_rfl)
    (of_decide_eq_true (by kernel_rfl)) (by unfold Func.isWrapper; first | (rw [if_pos (by decide +kernel)]; kernel_rfl) | (rw [if_neg (by decide +kernel)]; exact ⟨rfl, rfl⟩))
    (fun os started H enc _ => lifted os started H enc)
theorem proved : Rows.GraphWalksDownSaid := over
#print axioms proved
end Go.Proofs.Ythbkomkgciemiaa.graphWalksDown
namespace Go.Proofs.Ythbkomkgciemiaa
/-- The row, under a short name, for the claim. -/
theorem graphWalksDown_holds : Rows.GraphWalksDownSaid := graphWalksDown.proved
end Go.Proofs.Ythbkomkgciemiaa
