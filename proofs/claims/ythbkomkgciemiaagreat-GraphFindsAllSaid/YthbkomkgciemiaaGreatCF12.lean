/- GraphFindsAll: T1, T7: for every metric, at most 25 vectors that fit, a graph whose neighbourhoods are exact (one of Build, or another one), a vector that is alike, a slot, a key t and a k: if Within returns true, its slots are all those with at most the key t; if Nearest does, its slots are the first k of all in their order. Condition: none. -/
import Derived.Test.YthbkomkgciemiaaGreatCF11
import Derived.Test.YthbkomkgciemiaaGreatCF10
import Derived.Test.YthbkomkgciemiaaGreatCF9
import Derived.Test.YthbkomkgciemiaaGreatCF3
import Derived.Test.YthbkomkgciemiaaGreatCF8
import Derived.Test.YthbkomkgciemiaaGreatCF4
import Derived.Test.YthbkomkgciemiaaGreatCF6
import Derived.Test.YthbkomkgciemiaaGreatRows
import Derived.WalkKit
import Derived.ProofKit
import Derived.OpenShut
import Derived.ShutString
import Derived.ChangeOld
import Derived.Below
import Derived.SizedLaws
namespace Go.Proofs.YthbkomkgciemiaaGreat.PKF
open Go.Proofs.YthbkomkgciemiaaGreat.RF
open Go.RowKit Go.Proofs.YthbkomkgciemiaaGreatW.PrintWords Go.Proofs.YthbkomkgciemiaaGreatW.PrintLast Go.Proofs.YthbkomkgciemiaaGreatW.PrintMore
attribute [local go_sem] max2_int min2_int max_two min_two max_three min_three max_four min_four
set_option linter.unusedVariables false
set_option linter.unusedSimpArgs false
def leK (ks : List Int) (a b : Int) : Prop := rd ks a < rd ks b ∨ rd ks a = rd ks b ∧ a ≤ b
instance (ks : List Int) (a b : Int) : Decidable (leK ks a b) := by unfold leK; infer_instance
theorem leK_ltF {ks : List Int} {a b : Int} : leK ks a b ↔ ltF (orderF ks) b a = false := by
  rw [ltF_no]; unfold leK; omega
theorem rd_natE (xs : List Int) (q : Nat) : rd xs (q : Int) = xs[q]?.getD 0 := by
  unfold rd
  simp [List.getD_eq_getElem?_getD]
theorem rd_suc (xs : List Int) (q : Nat) : rd xs ((q : Int) + 1) = xs[q + 1]?.getD 0 := by
  have := rd_natE xs (q + 1)
  rwa [show ((q + 1 : Nat) : Int) = (q : Int) + 1 by omega] at this
theorem swapL_rd (xs : List Int) (k : Nat) (h : k + 1 < xs.length) (q : Nat) : rd (swapL xs k) q = if q = k then rd xs ((k : Int) + 1) else if q = k + 1 then rd xs k else rd xs q := by
  unfold swapL
  rw [rd_natE, List.getElem?_set, List.getElem?_set]
  by_cases c : q = k
  · subst c
    rw [if_pos rfl, if_pos rfl, if_pos (by simp; omega)]; rfl
  · rw [if_neg (fun e => c e.symm), if_neg c]
    by_cases d : q = k + 1
    · subst d
      rw [if_pos rfl, if_pos rfl, if_pos h]; rfl
    · rw [if_neg (fun e => d e.symm), if_neg d, rd_natE]
theorem swapL_perm (xs : List Int) (k : Nat) (h : k + 1 < xs.length) : (swapL xs k).Perm xs := by
  have e := @List.set_set_perm Int xs (k + 1) k h (by omega)
  unfold swapL
  rw [rd_natE, rd_suc]
  have e1 : xs[k]?.getD 0 = xs[k] := by rw [List.getElem?_eq_getElem (by omega)]; rfl
  have e2 : xs[k + 1]?.getD 0 = xs[k + 1] := by rw [List.getElem?_eq_getElem h]; rfl
  rw [e1, e2]
  exact e
def Ex (ks : List Int) (n e : Nat) (xs : List Int) : Prop := ∀ p q : Nat, p < q → q < n → q ≠ e → leK ks (rd xs p) (rd xs q)
theorem ex_swap {ks : List Int} {n k : Nat} {xs : List Int} (hn : n ≤ xs.length) (hk : k + 1 < n) (h : Ex ks n (k + 1) xs) (hlt : ¬ leK ks (rd xs k) (rd xs ((k : Int) + 1))) : Ex ks n k (swapL xs k) := by
  have hrev : leK ks (rd xs ((k : Int) + 1)) (rd xs k) := by unfold leK at *; omega
  intro p q hpq hq hqe
  rw [swapL_rd xs k (by omega) p, swapL_rd xs k (by omega) q, if_neg hqe]
  have e1 : ((k + 1 : Nat) : Int) = (k : Int) + 1 := by omega
  by_cases c : q = k + 1
  · subst c
    rw [if_pos rfl]
    by_cases d : p = k
    · subst d; rw [if_pos rfl]; exact hrev
    · rw [if_neg d, if_neg (by omega)]
      exact h p k (by omega) (by omega) (by omega)
  · rw [if_neg c]
    by_cases d : p = k
    · subst d
      rw [if_pos rfl, ← e1]
      exact h (p + 1) q (by omega) hq (by omega)
    · rw [if_neg d]
      by_cases f : p = k + 1
      · rw [if_pos f]
        exact h k q (by omega) hq (by omega)
      · rw [if_neg f]
        exact h p q hpq hq (by omega)
theorem ex_stay {ks : List Int} {n k : Nat} {xs : List Int} (hk : k + 1 < n) (h : Ex ks n (k + 1) xs) (hle : leK ks (rd xs k) (rd xs ((k : Int) + 1))) : Ex ks n k xs := by
  have e1 : ((k + 1 : Nat) : Int) = (k : Int) + 1 := by omega
  intro p q hpq hq hqe
  by_cases c : q = k + 1
  · subst c
    rw [e1]
    by_cases d : p = k
    · subst d; exact hle
    · have := h p k (by omega) (by omega) (by omega)
      unfold leK at *; omega
  · exact h p q hpq hq c
theorem order_l1 (m : Int) (hm : 1 ≤ m ∧ m ≤ 3) (l : List (List Int)) (v : List Int) (hal : ∀ x ∈ l, alikeF x v = true) (hl : l.length ≤ 4096) (i : Nat) : ∀ (j : Nat) (xs : List Int), j ≤ i → i < xs.length → xs.length ≤ 4096 → (∀ x ∈ xs, 0 ≤ x ∧ x < (l.length : Int)) → Ex (keysV m l v) (i + 1) j xs →
    ∃ ys, ys.Perm xs ∧ Ex (keysV m l v) (i + 1) 0 ys ∧ ∀ K0 r, antiquaryref27_Order.l0 K0 m l v ys ((i : Int) + 1) = some r → ∃ K, antiquaryref27_Order.l1 K m l v xs i j = some r := by
  have ei := Aside0.mk (show wrap64 ((i : Int) + 1) = wrap64 ((i : Int) + 1) from rfl)
  intro j
  induction j with
  | zero =>
    intro xs _ hi hx _ hs
    refine ⟨xs, List.Perm.refl _, hs, fun K0 r h => ⟨K0 + 1, ?_⟩⟩
    have e : wrap64 ((i : Int) + 1) = (i : Int) + 1 := w64 (by omega)
    rw [antiquaryref27_Order.l1, if_neg (by omega), e]
    exact h
  | succ j ih =>
    intro xs hj hi hx hin hs
    have hjx : j < xs.length := by omega
    have m1 := hin _ (rd_mem (l := xs) (i := (j : Int)) (by omega) (by omega))
    have m2 := hin _ (rd_mem (l := xs) (i := (j : Int) + 1) (by omega) (by omega))
    obtain ⟨ka, ha⟩ := key04_ex m hm (rdL l (rd xs j)) v (hal _ (rdL_mem m1.1 m1.2))
    obtain ⟨kb, hb⟩ := key04_ex m hm (rdL l (rd xs ((j : Int) + 1))) v (hal _ (rdL_mem m2.1 m2.2))
    have ra : keyV m (rdL l (rd xs j)) v = rd (keysV m l v) (rd xs j) := (rd_keysV m l v _ m1.1 m1.2).symm
    have rb : keyV m (rdL l (rd xs ((j : Int) + 1))) v = rd (keysV m l v) (rd xs ((j : Int) + 1)) := (rd_keysV m l v _ m2.1 m2.2).symm
    have ej : wrap64 ((((j + 1 : Nat) : Int)) - 1) = (j : Int) := by rw [w64 (by omega)]; omega
    have e1 : ((j + 1 : Nat) : Int) = (j : Int) + 1 := by omega
    have et1 : ((j : Int) + 1).toNat = j + 1 := by omega
    have et0 : (j : Int).toNat = j := by omega
    have hsw : (xs.set ((j : Int) + 1).toNat (rd xs j)).set (j : Int).toNat (rd xs ((j : Int) + 1)) = swapL xs j := by rw [et1, et0]; rfl
    have HSW := Aside0.mk hsw
    have EJ := Aside0.mk ej
    clear hsw ej et1 et0
    have hexp : ∀ K, ka ≤ K → kb ≤ K → antiquaryref27_Order.l1 (K + 1) m l v xs i ((j + 1 : Nat) : Int) = if leK (keysV m l v) (rd xs j) (rd xs ((j : Int) + 1)) then antiquaryref27_Order.l1 K m l v xs i j else antiquaryref27_Order.l1 K m l v (swapL xs j) i j := by
      intro K h1 h2
      rw [antiquaryref27_Order.l1, EJ.out, e1, if_pos (by omega), if_pos (by omega), if_pos (by omega), if_pos m1.1, if_pos m1.2, rd_L1_eq, up_le (antiquaryref04_Key.mono _ _ _) ha h1, Option.bind_some, if_pos (by omega), if_pos (by omega), if_pos m2.1, if_pos m2.2, rd_L1_eq, up_le (antiquaryref04_Key.mono _ _ _) hb h2, Option.bind_some, HSW.out, ra, rb]
      by_cases c1 : rd (keysV m l v) (rd xs j) > rd (keysV m l v) (rd xs ((j : Int) + 1))
      · rw [if_pos c1, if_neg (by unfold leK; omega)]
      · rw [if_neg c1]
        by_cases c2 : rd (keysV m l v) (rd xs j) = rd (keysV m l v) (rd xs ((j : Int) + 1))
        · rw [if_pos c2]
          by_cases c3 : rd xs j > rd xs ((j : Int) + 1)
          · rw [if_pos c3, if_neg (by unfold leK; omega)]
          · rw [if_neg c3, if_pos (by unfold leK; omega)]
        · rw [if_neg c2, if_pos (by unfold leK; omega)]
    have up : ∀ (zs : List Int) (k k' : Nat) (r : List Int), antiquaryref27_Order.l1 k m l v zs i j = some r → k ≤ k' → antiquaryref27_Order.l1 k' m l v zs i j = some r := fun zs k k' r h hk =>
      up_le (f := fun k => antiquaryref27_Order.l1 k m l v zs i j) (fun k => (antiquaryref27_Order.mono_l k).2 _ _ _ _ _ _) h hk
    by_cases c : leK (keysV m l v) (rd xs j) (rd xs ((j : Int) + 1))
    · obtain ⟨ys, p1, p2, p3⟩ := ih xs (by omega) hi hx hin (ex_stay (by omega) hs c)
      refine ⟨ys, p1, p2, fun K0 r h => ?_⟩
      obtain ⟨K, hK⟩ := p3 K0 r h
      refine ⟨K + ka + kb + 1, ?_⟩
      rw [hexp _ (by omega) (by omega), if_pos c]
      exact up _ _ _ _ hK (by omega)
    · have hpm := swapL_perm xs j (by omega)
      obtain ⟨ys, p1, p2, p3⟩ := ih (swapL xs j) (by omega) (by rw [swapL_length]; exact hi) (by rw [swapL_length]; exact hx) (fun x hx' => hin x (hpm.mem_iff.1 hx')) (ex_swap (by omega) (by omega) hs c)
      refine ⟨ys, p1.trans hpm, p2, fun K0 r h => ?_⟩
      obtain ⟨K, hK⟩ := p3 K0 r h
      refine ⟨K + ka + kb + 1, ?_⟩
      rw [hexp _ (by omega) (by omega), if_neg c]
      exact up _ _ _ _ hK (by omega)
theorem order_l0 (m : Int) (hm : 1 ≤ m ∧ m ≤ 3) (l : List (List Int)) (v : List Int) (hal : ∀ x ∈ l, alikeF x v = true) (hl : l.length ≤ 4096) (d : Nat) : ∀ (i : Nat) (xs : List Int), i + d = xs.length → xs.length ≤ 4096 → (∀ x ∈ xs, 0 ≤ x ∧ x < (l.length : Int)) → Ex (keysV m l v) i 0 xs →
    ∃ K ys, antiquaryref27_Order.l0 K m l v xs i = some ys ∧ ys.Perm xs ∧ Ex (keysV m l v) xs.length 0 ys := by
  induction d with
  | zero =>
    intro i xs hi hx _ hs
    refine ⟨1, xs, ?_, List.Perm.refl _, by rw [← show i = xs.length by omega]; exact hs⟩
    rw [antiquaryref27_Order.l0, if_neg (by omega)]
  | succ d ih =>
    intro i xs hi hx hin hs
    obtain ⟨ys, p1, p2, p3⟩ := order_l1 m hm l v hal hl i i xs (Nat.le_refl _) (by omega) hx hin (fun p q hpq hq hqe => hs p q hpq (by omega) (by omega))
    obtain ⟨K0, zs, z1, z2, z3⟩ := ih (i + 1) ys (by rw [p1.length_eq]; omega) (by rw [p1.length_eq]; exact hx) (fun x hx' => hin x (p1.mem_iff.1 hx')) p2
    obtain ⟨K, hK⟩ := p3 K0 zs z1
    refine ⟨K + 1, zs, ?_, z2.trans p1, by rw [← p1.length_eq]; exact z3⟩
    rw [antiquaryref27_Order.l0, if_pos (by omega)]
    exact hK
def ordV (ks xs : List Int) : List Int := xs.mergeSort fun x y => !ltF (orderF ks) y x
theorem ordV_of {ks xs ys : List Int} (hp : ys.Perm xs) (hs : Ex ks xs.length 0 ys) : ys = ordV ks xs := by
  have h := Go.Sort.sorted_unique_holds (lt := ltF (orderF ks)) (order_swo ks) (order_tri ks) xs.toArray ys.toArray ⟨by simp [hp.length_eq], fun i hi => by
    have h1 : xs.length ≤ i := by simp at hi; exact hi
    have h2 : ys.length ≤ i := by rw [hp.length_eq]; exact h1
    simp [Array.getElem!_eq_getD, Array.getD_eq_getD_getElem?, h1, h2], by
    have e1 : xs.toArray.size = ys.toArray.size := by simp [hp.length_eq]
    rw [show (ys.toArray.extract 0 xs.toArray.size) = ys.toArray by rw [e1]; simp, show (xs.toArray.extract 0 xs.toArray.size) = xs.toArray by simp]
    exact hp⟩ (fun p q _ hpq hq => by
    have hq' : q < xs.length := by simpa using hq
    have := leK_ltF.1 (hs p q hpq hq' (by omega))
    rw [rd_natE, rd_natE] at this
    simpa [Array.getElem!_eq_getD, Array.getD_eq_getD_getElem?] using this)
  simpa [ordV] using h
theorem order_ex (m : Int) (hm : 1 ≤ m ∧ m ≤ 3) (l : List (List Int)) (v : List Int) (hal : ∀ x ∈ l, alikeF x v = true) (hl : l.length ≤ 4096) (xs : List Int) (hx : xs.length ≤ 4096) (hin : ∀ x ∈ xs, 0 ≤ x ∧ x < (l.length : Int)) :
    ∃ K, antiquaryref27_Order.f K m l v xs = some (ordV (keysV m l v) xs) := by
  obtain ⟨K, ys, h1, h2, h3⟩ := order_l0 m hm l v hal hl xs.length 0 xs (by omega) hx hin (fun p q _ hq _ => absurd hq (by omega))
  refine ⟨K, ?_⟩
  rw [← ordV_of h2 h3]
  unfold antiquaryref27_Order.f
  rw [Option.bind_some, if_pos (by simp; omega), List.nil_append]
  exact h1
theorem sortF_ordV (ks xs : List Int) : sortF (orderF ks) xs = ordV ks xs := by
  unfold sortF
  split
  · rename_i h
    cases hx : xs with
    | nil => simp [insTo, ordV]
    | cons x r =>
      have e := insTo_sort (orderF ks) 0 (xs.length - 1) xs.toArray
      have hl : 0 + (xs.length - 1) + 1 = xs.length := by rw [hx]; simp
      rw [hl] at e
      obtain ⟨p, s⟩ := Go.Sort.insertionSort_holds (lt := ltF (orderF ks)) (order_swo ks) xs.toArray 0 xs.length (Nat.zero_le _) (by simp)
      have u := Go.Sort.sorted_unique_holds (lt := ltF (orderF ks)) (order_swo ks) (order_tri ks) xs.toArray _ (by simpa using p) (by simpa using s)
      rw [← hx]
      unfold ordV
      have e' : insTo (orderF ks) 0 (xs.length - 1) xs = _ := e
      rw [e', u]
  · rfl
def antiquaryref27_Walk.T7 : Bool × List (List Nat × List Nat) := (true, [([], []), ([], []), ([], []), ([2], [2]), ([3], [3]), ([1, 4], [1, 4]), ([5], [5]), ([], []), ([0, 6, 7], [0, 6, 7]), ([], []), ([], []), ([], []), ([10, 11], [10, 11]), ([12], [12]), ([], []), ([9, 13, 14, 8], [9, 13, 14]), ([8, 15], [8, 15])])
def antiquaryref27_Walk.B7 : List Nat := [0, 0, 0, 4, 12, 30, 62, 0, 255, 0, 0, 0, 3072, 7168, 0, 32767, 65535]
theorem antiquaryref27_Walk.tab7 : rtab .any (opsOf Tryz.f12 7) = antiquaryref27_Walk.T7 := by kernel_rfl
theorem antiquaryref27_Walk.bits7 : waitsOk antiquaryref27_Walk.T7.2 antiquaryref27_Walk.B7 = true := by kernel_rfl
theorem ordV_perm (ks xs : List Int) : (ordV ks xs).Perm xs := List.mergeSort_perm _ _
theorem ordV_length (ks xs : List Int) : (ordV ks xs).length = xs.length := (ordV_perm ks xs).length_eq
theorem ordV_asc (ks xs : List Int) : (ordV ks xs).Pairwise fun a b => leK ks a b := by
  have h := List.pairwise_mergeSort (le := fun x y => !ltF (orderF ks) y x) (fun a b c h1 h2 => by
    simp only [Bool.not_eq_true'] at *
    exact (order_swo ks).ntrans c b a h2 h1) (fun a b => by
    by_cases c : leK ks a b
    · have := leK_ltF.1 c
      simp [this]
    · have : ltF (orderF ks) a b = false := leK_ltF.1 (by unfold leK at *; omega)
      simp [this]) xs
  refine h.imp fun {a b} hab => ?_
  simp only [Bool.not_eq_true'] at hab
  exact leK_ltF.2 hab
theorem high_tri (m : Int) (hm : 1 ≤ m ∧ m ≤ 3) {a b c : List Int} (h1 : alikeF a b = true) (h2 : alikeF b c = true) (h3 : alikeF a c = true) {t r : Int} (ht : keyV m b c ≤ t) (ht1 : t ≤ 134217728) (hr : metric_High.f m (keyV m a b) t = some r) : keyV m a c ≤ r := by
  have k1 := keyV_bd m a b h1
  have k2 := keyV_bd m b c h2
  have k3 := keyV_bd m a c h3
  obtain ⟨s, s0, s1, s2, e⟩ := high_ex m k1.1 k1.2 (show 0 ≤ t by omega) ht1
  have := tri m hm a b c h1 h2 t s ht s0 s2
  rw [e] at hr
  have hr := Option.some.inj hr
  by_cases c2 : m = 2
  · rw [if_pos c2] at this hr
    rw [← hr]; unfold mn; split <;> omega
  · rw [if_neg c2] at this hr
    rw [← hr]; unfold mn; split <;> omega
theorem cover_hood {m : Int} {l : List (List Int)} {v : List Int} {g : List Hd} (hr : rightF m l = true) (ha : alikeF (rdL l 0) v = true) (hex : ∀ j : Nat, j < l.length → Exact m l g j) {a T : Int} (h0 : 0 ≤ a) (h1 : a < l.length) (hT1 : T ≤ 134217728)
    (hc : cover2 m (rd (keysV m l v) a) T (rd_T61 g a).f0 = true) : ∀ x : Int, 0 ≤ x → x < l.length → rd (keysV m l v) x ≤ T → x ∈ (rd_T61 g a).f1 := by
  intro x hx0 hx1 hx
  obtain ⟨hm, ⟨hl1, hl2⟩, hall⟩ := rightF_iff.1 hr
  have hal := alike_all hr ha
  have ma := rdL_mem (l := l) h0 h1
  have mx' := rdL_mem (l := l) hx0 hx1
  have ev : ∀ y ∈ l, alikeF v y = true := fun y hy => by
    obtain ⟨p1, p2, p3⟩ := alikeF_iff.1 (hal y hy)
    exact alikeF_iff.2 ⟨p1.symm, p3, p2⟩
  have e := hex a.toNat (by omega)
  unfold Exact at e
  rw [show ((a.toNat : Nat) : Int) = a by omega] at e
  rw [e, aroundV_mem, keysV_length, rd_keysV _ _ _ _ hx0 hx1]
  refine ⟨hx0, hx1, ?_⟩
  rw [rd_keysV _ _ _ _ hx0 hx1] at hx
  rw [rd_keysV _ _ _ _ h0 h1] at hc
  unfold cover2 at hc
  split at hc
  · rename_i r hh
    have hc := of_decide_eq_true hc
    have := high_tri m hm (hal _ ma) (ev _ mx') (alike_trans (hall _ ma) (hall _ mx')) (by rw [keyV_comm]; exact hx) hT1 hh
    rw [keyV_comm]
    omega
  · cases hc
theorem pw_ext {R : Int → Int → Prop} (irr : ∀ x, ¬ R x x) (asym : ∀ x y, R x y → ¬ R y x) : ∀ xs ys : List Int, xs.Pairwise R → ys.Pairwise R → (∀ x, x ∈ xs ↔ x ∈ ys) → xs = ys
  | [], [], _, _, _ => rfl
  | [], y :: ys, _, _, h => by have := (h y).2 (by simp); simp at this
  | x :: xs, [], _, _, h => by have := (h x).1 (by simp); simp at this
  | x :: xs, y :: ys, h1, h2, h => by
    rw [List.pairwise_cons] at h1 h2
    have e : x = y := by
      rcases List.mem_cons.1 ((h x).1 (by simp)) with e | m1
      · exact e
      rcases List.mem_cons.1 ((h y).2 (by simp)) with e | m2
      · exact e.symm
      exact absurd (h1.1 _ m2) (asym _ _ (h2.1 _ m1))
    subst e
    rw [pw_ext irr asym xs ys h1.2 h2.2 fun z => ?_]
    constructor
    · intro hz
      rcases List.mem_cons.1 ((h z).1 (by simp [hz])) with e | hm
      · subst e; exact absurd (h1.1 _ hz) (irr _)
      · exact hm
    · intro hz
      rcases List.mem_cons.1 ((h z).2 (by simp [hz])) with e | hm
      · subst e; exact absurd (h2.1 _ hz) (irr _)
      · exact hm
theorem cover_eq (m : Int) (ks : List Int) (g : List Hd) (t a : Int) : coverF m ks g t a = cover2 m (rd ks a) t (rd_T61 g a).f0 := rfl
theorem within_all {m : Int} {l : List (List Int)} {v : List Int} {g : List Hd} (hr : rightF m l = true) (ha : alikeF (rdL l 0) v = true) (hv : ValidG l.length g) (hex : ∀ j : Nat, j < l.length → Exact m l g j) {s t : Int} (h0 : 0 ≤ s) (h1 : s < l.length) (ht1 : t ≤ 134217728) :
    if (withinV m (keysV m l v) g s t).2.2 = true then (withinV m (keysV m l v) g s t).1 = aroundV (keysV m l v) t else (withinV m (keysV m l v) g s t).1 = [] := by
  have hg := good_of_valid hv
  have hkl := keysV_length m l v
  unfold withinV
  cases hf : (walkV (keysV m l v) g s).find? (coverF m (keysV m l v) g t) with
  | none => simp
  | some a =>
    rw [if_pos rfl]
    show nearF (keysV m l v) t (rd_T61 g a).f1 = _
    have hb := walkV_in hg hkl s h0 h1 a (List.mem_of_find?_eq_some hf)
    have hc := List.find?_some hf
    rw [cover_eq] at hc
    have hco := cover_hood hr ha hex hb.1 hb.2 ht1 hc
    have hh := hv.2.2.2 a.toNat (by have := hv.2.2.1; omega)
    rw [show ((a.toNat : Nat) : Int) = a by omega] at hh
    refine pw_ext (R := fun x y => x < y) (fun x => by omega) (fun x y h => by omega) _ _ ((asc_nodup _ _ hh.2.2.2).filter _) (aroundTo_asc _ _ _) fun x => ?_
    have hx := hg.2 _ (rd_T_mem (g := g) (i := a) hb.1 (by rw [hg.1]; exact hb.2))
    unfold nearF
    rw [List.mem_filter, aroundV_mem, hkl]
    constructor
    · rintro ⟨p1, p2⟩
      have := hx.2.2 x p1
      simp only [Bool.not_eq_true', decide_eq_false_iff_not] at p2
      exact ⟨this.1, this.2, by omega⟩
    · rintro ⟨p1, p2, p3⟩
      refine ⟨hco x p1 p2 p3, ?_⟩
      simp only [Bool.not_eq_true', decide_eq_false_iff_not]
      omega
def idsV (n : Nat) : List Int := (List.range n).map fun i : Nat => (i : Int)
theorem ids_mem (n : Nat) (x : Int) : x ∈ idsV n ↔ 0 ≤ x ∧ x < n := by
  unfold idsV
  rw [List.mem_map]
  constructor
  · rintro ⟨i, h, rfl⟩
    have := List.mem_range.1 h
    omega
  · rintro ⟨h1, h2⟩
    exact ⟨x.toNat, List.mem_range.2 (by omega), by omega⟩
theorem ids_asc (n : Nat) : (idsV n).Pairwise (· < ·) := by
  unfold idsV
  rw [List.pairwise_map]
  exact List.pairwise_lt_range.imp fun h => by omega
theorem ids_length (n : Nat) : (idsV n).length = n := by simp [idsV]
theorem ids_succ (n : Nat) : idsV (n + 1) = idsV n ++ [(n : Int)] := by simp [idsV, List.range_succ]
def ltK (ks : List Int) (a b : Int) : Prop := rd ks a < rd ks b ∨ rd ks a = rd ks b ∧ a < b
theorem ordV_lt (ks xs : List Int) (h : xs.Pairwise (· < ·)) : (ordV ks xs).Pairwise (ltK ks) := by
  have hn : xs.Nodup := h.imp fun h => by omega
  have h2 := ((ordV_perm ks xs).nodup_iff).2 hn
  refine ((ordV_asc ks xs).and h2).imp fun {a b} hab => ?_
  obtain ⟨p, q⟩ := hab
  unfold leK at p; unfold ltK
  omega
theorem ltK_irr (ks : List Int) (x : Int) : ¬ ltK ks x x := by unfold ltK; omega
theorem ltK_asym (ks : List Int) (x y : Int) : ltK ks x y → ¬ ltK ks y x := by unfold ltK; omega
theorem take_kept (ks : List Int) (P : Int → Bool) (z : Int) : ∀ (O : List Int) (k : Nat), O.Pairwise (ltK ks) → (∀ x ∈ O, rd ks x ≤ rd ks z → P x = true) → (O.filter P)[k]? = some z → (O.filter P).take (k + 1) = O.take (k + 1)
  | [], k, _, _, h => by simp at h
  | x :: O, k, h1, h2, h => by
    have hz : z ∈ (x :: O).filter P := List.mem_of_getElem? h
    rw [List.mem_filter] at hz
    rw [List.pairwise_cons] at h1
    have hp : P x = true := by
      rcases List.mem_cons.1 hz.1 with e | hm
      · rw [← e]; exact hz.2
      · have := h1.1 z hm
        exact h2 x (by simp) (by unfold ltK at this; omega)
    rw [List.filter_cons_of_pos hp] at h ⊢
    rw [List.take_succ_cons, List.take_succ_cons]
    congr 1
    cases k with
    | zero => simp
    | succ k =>
      rw [List.getElem?_cons_succ] at h
      exact take_kept ks P z O k h1.2 (fun y hy => h2 y (by simp [hy])) h
theorem nearest_first {m : Int} {l : List (List Int)} {v : List Int} {g : List Hd} (hr : rightF m l = true) (ha : alikeF (rdL l 0) v = true) (hv : ValidG l.length g) (hex : ∀ j : Nat, j < l.length → Exact m l g j) {s k : Int} (h0 : 0 ≤ s) (h1 : s < l.length) (hk : 1 ≤ k)
    (hs : (nearestV m (keysV m l v) g s k l.length).2.2 = true) : (nearestV m (keysV m l v) g s k l.length).1 = (ordV (keysV m l v) (idsV l.length)).take (mn k l.length).toNat := by
  have hg := good_of_valid hv
  have hkl := keysV_length m l v
  obtain ⟨a, hae⟩ : ∃ a, a = lastF s (walkV (keysV m l v) g s) := ⟨_, rfl⟩
  have hb : 0 ≤ a ∧ a < (l.length : Int) := by rw [hae]; exact lastF_in (n := l.length) (from_ := s) ⟨h0, h1⟩ (walkV_in hg hkl s h0 h1)
  unfold nearestV at hs ⊢
  simp only [] at hs ⊢
  rw [← hae] at hs ⊢
  have hh := hv.2.2.2 a.toNat (by have := hv.2.2.1; omega)
  rw [show ((a.toNat : Nat) : Int) = a by omega] at hh
  have hasc := asc_nodup _ _ hh.2.2.2
  have hin := (hg.2 _ (rd_T_mem (g := g) (i := a) hb.1 (by rw [hg.1]; exact hb.2))).2.2
  have hlen : (rd_T61 g a).f1.length ≤ l.length := (hg.2 _ (rd_T_mem (g := g) (i := a) hb.1 (by rw [hg.1]; exact hb.2))).2.1
  have hcov : ∀ T : Int, T ≤ 134217728 → cover2 m (rd (keysV m l v) a) T (rd_T61 g a).f0 = true → _ := fun T hT hc => cover_hood hr ha hex hb.1 hb.2 hT hc
  rw [sortF_ordV] at hs ⊢
  have hol := ordV_length (keysV m l v) (rd_T61 g a).f1
  have hOl := ordV_length (keysV m l v) (idsV l.length)
  rw [ids_length] at hOl
  have hfil : (ordV (keysV m l v) (idsV l.length)).filter (fun x => decide (x ∈ (rd_T61 g a).f1)) = ordV (keysV m l v) (rd_T61 g a).f1 := by
    refine pw_ext (ltK_irr (keysV m l v)) (ltK_asym (keysV m l v)) _ _ ((ordV_lt _ _ (ids_asc _)).filter _) (ordV_lt _ _ hasc) fun x => ?_
    rw [List.mem_filter, (ordV_perm _ _).mem_iff, (ordV_perm _ _).mem_iff, ids_mem, decide_eq_true_iff]
    exact ⟨fun h => h.2, fun h => ⟨hin x h, h⟩⟩
  have hall : (ordV (keysV m l v) (rd_T61 g a).f1).length = l.length → ordV (keysV m l v) (rd_T61 g a).f1 = ordV (keysV m l v) (idsV l.length) := by
    intro e
    rw [← hfil] at e ⊢
    exact List.filter_eq_self.2 (List.length_filter_eq_length_iff.1 (e.trans hOl.symm))
  have hmem : ∀ i : Int, 0 ≤ i → i < (ordV (keysV m l v) (rd_T61 g a).f1).length → rd (keysV m l v) (rd (ordV (keysV m l v) (rd_T61 g a).f1) i) ≤ 134217728 := by
    intro i hi0 hi1
    have := hin _ ((ordV_perm _ _).mem_iff.1 (rd_mem hi0 hi1))
    exact (keysV_bd (alike_all hr ha) _ (rd_mem this.1 (by rw [hkl]; exact this.2))).2
  generalize ordV (keysV m l v) (rd_T61 g a).f1 = o at *
  split at hs
  · rename_i c
    rw [if_pos c]
    show o.take k.toNat = _
    rw [show mn k l.length = k by unfold mn; split <;> omega]
    simp only [Bool.or_eq_true, decide_eq_true_iff] at hs
    rcases hs with hs | hs
    · rw [hall hs]
    · obtain ⟨z, hz⟩ : ∃ z, z = rd o (k - 1) := ⟨_, rfl⟩
      rw [← hz] at hs
      have hT := hmem (k - 1) (by omega) (by omega)
      rw [← hz] at hT
      have hc := hcov _ hT hs
      have := take_kept (keysV m l v) (fun x => decide (x ∈ (rd_T61 g a).f1)) z (ordV (keysV m l v) (idsV l.length)) (k.toNat - 1) (ordV_lt _ _ (ids_asc _)) (fun x hx hle => by
        rw [(ordV_perm _ _).mem_iff, ids_mem] at hx
        exact decide_eq_true (hc x hx.1 hx.2 hle)) (by
        rw [hfil, hz]
        unfold rd
        rw [List.getD_eq_getElem?_getD, show (k - 1).toNat = k.toNat - 1 by omega, List.getElem?_eq_getElem (by omega)]
        rfl)
      rw [hfil, show k.toNat - 1 + 1 = k.toNat by omega] at this
      exact this
  · rename_i c
    rw [if_neg c]
    have hs : decide (o.length = l.length) = true := hs
    rw [decide_eq_true_iff] at hs
    show o = _
    rw [hall hs, show mn k l.length = l.length by unfold mn; split <;> omega, List.take_of_length_le (by omega)]
open Go.RowKit
attribute [local go_sem] Oper.semAt_some
inductive TestF (m : Int) (l : List (List Int)) (v : List Int) (t : Int) (g : List Hd) : Prop where
  | few (K : Nat) (h : antiquaryref09_Few.f K l 25 = some false)
  | m (K : Nat) (h : antiquaryref09_Few.f K l 25 = some true) (h1 : antiquaryref09_Metric.f m = some false)
  | fit (K : Nat) (h : antiquaryref09_Few.f K l 25 = some true) (h1 : antiquaryref09_Metric.f m = some true) (h2 : antiquaryref09_Fit.f K l = some false)
  | alike (K : Nat) (h : antiquaryref09_Few.f K l 25 = some true) (h1 : antiquaryref09_Metric.f m = some true) (h2 : antiquaryref09_Fit.f K l = some true) (h3 : 1 ≤ l.length) (h4 : antiquaryref04_Alike.f K (rd_L1 l 0) v = some false)
  | t0 (K : Nat) (h : antiquaryref09_Few.f K l 25 = some true) (h1 : antiquaryref09_Metric.f m = some true) (h2 : antiquaryref09_Fit.f K l = some true) (h3 : 1 ≤ l.length) (h4 : antiquaryref04_Alike.f K (rd_L1 l 0) v = some true) (h5 : t < 0)
  | t1 (K : Nat) (h : antiquaryref09_Few.f K l 25 = some true) (h1 : antiquaryref09_Metric.f m = some true) (h2 : antiquaryref09_Fit.f K l = some true) (h3 : 1 ≤ l.length) (h4 : antiquaryref04_Alike.f K (rd_L1 l 0) v = some true) (h5 : ¬ t < 0) (h6 : 134217728 < t)
  | g (K : Nat) (h : antiquaryref09_Few.f K l 25 = some true) (h1 : antiquaryref09_Metric.f m = some true) (h2 : antiquaryref09_Fit.f K l = some true) (h3 : 1 ≤ l.length) (h4 : antiquaryref04_Alike.f K (rd_L1 l 0) v = some true) (h5 : ¬ t < 0) (h6 : ¬ 134217728 < t) (h7 : antiquaryref27_Few.f K g = some false)
set_option maxHeartbeats 1500000 in
set_option maxRecDepth 100000 in
theorem findsNo (m : Int) (A1 : Option Addr) (c1 : Nat) (l : List (List Int)) (want : Int) (A2 : Option Addr) (c2 : Nat) (g : List Hd) (A3 : Option Addr) (c3 : Nat) (v : List Int) (a t k : Int) (w : World) (hr1 : Kd.C (Kd.slice 3 (Kd.int .i64)) w A1 l.length l) (hc1 : l.length ≤ c1) (hr2 : Kd.C k61 w A2 g.length g) (hc2 : g.length ≤ c2) (hr3 : Kd.C (Kd.int .i64) w A3 v.length v) (hc3 : v.length ≤ c3) (ht : TestF m l v t g) :
    Calls Tryz.prog 5 #[.int .i64 m, .slice A1 l.length c1, .int .u8 want, .agg #[.slice A2 g.length c2], .slice A3 v.length c3, .int .u8 a, .int .i64 t, .int .u8 k] w fun e w' => e = .returned (.bool true) ∧ Below w.heap.size w w' := by
  have hu := Tryz.underlying25
  have HL := Aside0.mk hr1
  have HG := Aside0.mk hr2
  have HV := Aside0.mk hr3
  clear hr1 hr2 hr3
  have HT := Aside0.mk ht
  clear ht
  cases HT.out with
  | few K h =>
    have Qh := Aside0.mk h
    clear h
    go_enter Tryz.func5, Tryz.ntmps5
    go_upto_region 1 with fail
    have HX := Aside0.mk (blk_new w (.cells #[.slice A2 g.length c2] 25))
    have HB := Aside0.mk (below_alloc (Below.refl _ w) (.cells #[.slice A2 g.length c2] 25))
    have c0 := cell_of_blk HX.out
    generalize hWn : w.alloc (.cells #[.slice A2 g.length c2] 25) = Wn at HX HB c0 ⊢
    clear hWn
    go_wp2_with fail
    clear c0
    refine (antiquaryref09_Few.calls K _ c1 l 25 false _ (Kd.C_below HL.out HB.out) hc1 Qh.out).mono ?_
    rintro e W ⟨rfl, hd⟩
    replace HX := Aside0.mk (blk_below HX.out hd.below)
    replace HB := Aside0.mk (below_step HB.out hd.below)
    clear hd
    have c0 := cell_of_blk HX.out
    go_wp2_with fail
    refine (sanityC _).mono ?_
    rintro e w9 ⟨rfl, hb⟩
    have HB9 := Aside0.mk (below_step HB.out hb)
    clear hb
    go_wp2
    go_ret
    exact ⟨ret_bool (by simp), HB9.out⟩
  | m K h h1 =>
    have Qh := Aside0.mk h
    have Qh1 := Aside0.mk h1
    clear h h1
    go_enter Tryz.func5, Tryz.ntmps5
    go_upto_region 1 with fail
    have HX := Aside0.mk (blk_new w (.cells #[.slice A2 g.length c2] 25))
    have HB := Aside0.mk (below_alloc (Below.refl _ w) (.cells #[.slice A2 g.length c2] 25))
    have c0 := cell_of_blk HX.out
    generalize hWn : w.alloc (.cells #[.slice A2 g.length c2] 25) = Wn at HX HB c0 ⊢
    clear hWn
    go_wp2_with fail
    clear c0
    refine (antiquaryref09_Few.calls K _ c1 l 25 true _ (Kd.C_below HL.out HB.out) hc1 Qh.out).mono ?_
    rintro e W ⟨rfl, hd⟩
    replace HX := Aside0.mk (blk_below HX.out hd.below)
    replace HB := Aside0.mk (below_step HB.out hd.below)
    clear hd
    have c0 := cell_of_blk HX.out
    go_wp2_with fail
    clear c0
    refine (antiquaryref09_Metric.calls m false _ Qh1.out).mono ?_
    rintro e W ⟨rfl, hd⟩
    replace HX := Aside0.mk (blk_below HX.out hd.below)
    replace HB := Aside0.mk (below_step HB.out hd.below)
    clear hd
    have c0 := cell_of_blk HX.out
    go_wp2_with fail
    refine (sanityC _).mono ?_
    rintro e w9 ⟨rfl, hb⟩
    have HB9 := Aside0.mk (below_step HB.out hb)
    clear hb
    go_wp2
    go_ret
    exact ⟨ret_bool (by simp), HB9.out⟩
  | fit K h h1 h2 =>
    have Qh := Aside0.mk h
    have Qh1 := Aside0.mk h1
    have Qh2 := Aside0.mk h2
    clear h h1 h2
    go_enter Tryz.func5, Tryz.ntmps5
    go_upto_region 1 with fail
    have HX := Aside0.mk (blk_new w (.cells #[.slice A2 g.length c2] 25))
    have HB := Aside0.mk (below_alloc (Below.refl _ w) (.cells #[.slice A2 g.length c2] 25))
    have c0 := cell_of_blk HX.out
    generalize hWn : w.alloc (.cells #[.slice A2 g.length c2] 25) = Wn at HX HB c0 ⊢
    clear hWn
    go_wp2_with fail
    clear c0
    refine (antiquaryref09_Few.calls K _ c1 l 25 true _ (Kd.C_below HL.out HB.out) hc1 Qh.out).mono ?_
    rintro e W ⟨rfl, hd⟩
    replace HX := Aside0.mk (blk_below HX.out hd.below)
    replace HB := Aside0.mk (below_step HB.out hd.below)
    clear hd
    have c0 := cell_of_blk HX.out
    go_wp2_with fail
    clear c0
    refine (antiquaryref09_Metric.calls m true _ Qh1.out).mono ?_
    rintro e W ⟨rfl, hd⟩
    replace HX := Aside0.mk (blk_below HX.out hd.below)
    replace HB := Aside0.mk (below_step HB.out hd.below)
    clear hd
    have c0 := cell_of_blk HX.out
    go_wp2_with fail
    clear c0
    refine (antiquaryref09_Fit.calls K _ c1 l false _ (Kd.C_below HL.out HB.out) hc1 Qh2.out).mono ?_
    rintro e W ⟨rfl, hd⟩
    replace HX := Aside0.mk (blk_below HX.out hd.below)
    replace HB := Aside0.mk (below_step HB.out hd.below)
    clear hd
    have c0 := cell_of_blk HX.out
    go_wp2_with fail
    refine (sanityC _).mono ?_
    rintro e w9 ⟨rfl, hb⟩
    have HB9 := Aside0.mk (below_step HB.out hb)
    clear hb
    go_wp2
    go_ret
    exact ⟨ret_bool (by simp), HB9.out⟩
  | alike K h h1 h2 h3 h4 =>
    have Qh := Aside0.mk h
    have Qh1 := Aside0.mk h1
    have Qh2 := Aside0.mk h2
    have Qh4 := Aside0.mk h4
    clear h h1 h2 h4
    have h03 : 0 < (l.length : Int) := by omega
    obtain ⟨adA, Aa, ca, hAa, ra, hla, hCa⟩ := at_L1 HL.out 0 (by omega) h03
    rw [show ((0 : Int)).toNat = 0 from rfl, Addr.add_zero'] at ra
    have HA := Aside0.mk hCa
    subst hAa
    have RA := Aside0.mk ra
    clear ra hCa
    go_enter Tryz.func5, Tryz.ntmps5
    go_upto_region 1 with fail
    have HX := Aside0.mk (blk_new w (.cells #[.slice A2 g.length c2] 25))
    have HB := Aside0.mk (below_alloc (Below.refl _ w) (.cells #[.slice A2 g.length c2] 25))
    have c0 := cell_of_blk HX.out
    generalize hWn : w.alloc (.cells #[.slice A2 g.length c2] 25) = Wn at HX HB c0 ⊢
    clear hWn
    have r9 := (HB.out.cell (World.block_lt_of_cell? w _ RA.out)).trans RA.out
    go_wp2_with fail
    clear c0 r9
    refine (antiquaryref09_Few.calls K _ c1 l 25 true _ (Kd.C_below HL.out HB.out) hc1 Qh.out).mono ?_
    rintro e W ⟨rfl, hd⟩
    replace HX := Aside0.mk (blk_below HX.out hd.below)
    replace HB := Aside0.mk (below_step HB.out hd.below)
    clear hd
    have c0 := cell_of_blk HX.out
    have r9 := (HB.out.cell (World.block_lt_of_cell? w _ RA.out)).trans RA.out
    go_wp2_with fail
    clear c0 r9
    refine (antiquaryref09_Metric.calls m true _ Qh1.out).mono ?_
    rintro e W ⟨rfl, hd⟩
    replace HX := Aside0.mk (blk_below HX.out hd.below)
    replace HB := Aside0.mk (below_step HB.out hd.below)
    clear hd
    have c0 := cell_of_blk HX.out
    have r9 := (HB.out.cell (World.block_lt_of_cell? w _ RA.out)).trans RA.out
    go_wp2_with fail
    clear c0 r9
    refine (antiquaryref09_Fit.calls K _ c1 l true _ (Kd.C_below HL.out HB.out) hc1 Qh2.out).mono ?_
    rintro e W ⟨rfl, hd⟩
    replace HX := Aside0.mk (blk_below HX.out hd.below)
    replace HB := Aside0.mk (below_step HB.out hd.below)
    clear hd
    have c0 := cell_of_blk HX.out
    have r9 := (HB.out.cell (World.block_lt_of_cell? w _ RA.out)).trans RA.out
    go_wp2_with fail
    clear c0 r9
    refine (antiquaryref04_Alike.calls K Aa ca (rd_L1 l 0) A3 c3 v false _ (Kd.C_below HA.out HB.out) hla (Kd.C_below HV.out HB.out) hc3 Qh4.out).mono ?_
    rintro e W ⟨rfl, hd⟩
    replace HX := Aside0.mk (blk_below HX.out hd.below)
    replace HB := Aside0.mk (below_step HB.out hd.below)
    clear hd
    have c0 := cell_of_blk HX.out
    have r9 := (HB.out.cell (World.block_lt_of_cell? w _ RA.out)).trans RA.out
    go_wp2_with fail
    refine (sanityC _).mono ?_
    rintro e w9 ⟨rfl, hb⟩
    have HB9 := Aside0.mk (below_step HB.out hb)
    clear hb
    go_wp2
    go_ret
    exact ⟨ret_bool (by simp), HB9.out⟩
  | t0 K h h1 h2 h3 h4 h5 =>
    have Qh := Aside0.mk h
    have Qh1 := Aside0.mk h1
    have Qh2 := Aside0.mk h2
    have Qh4 := Aside0.mk h4
    clear h h1 h2 h4
    have h03 : 0 < (l.length : Int) := by omega
    obtain ⟨adA, Aa, ca, hAa, ra, hla, hCa⟩ := at_L1 HL.out 0 (by omega) h03
    rw [show ((0 : Int)).toNat = 0 from rfl, Addr.add_zero'] at ra
    have HA := Aside0.mk hCa
    subst hAa
    have RA := Aside0.mk ra
    clear ra hCa
    go_enter Tryz.func5, Tryz.ntmps5
    go_upto_region 1 with fail
    have HX := Aside0.mk (blk_new w (.cells #[.slice A2 g.length c2] 25))
    have HB := Aside0.mk (below_alloc (Below.refl _ w) (.cells #[.slice A2 g.length c2] 25))
    have c0 := cell_of_blk HX.out
    generalize hWn : w.alloc (.cells #[.slice A2 g.length c2] 25) = Wn at HX HB c0 ⊢
    clear hWn
    have r9 := (HB.out.cell (World.block_lt_of_cell? w _ RA.out)).trans RA.out
    go_wp2_with fail
    clear c0 r9
    refine (antiquaryref09_Few.calls K _ c1 l 25 true _ (Kd.C_below HL.out HB.out) hc1 Qh.out).mono ?_
    rintro e W ⟨rfl, hd⟩
    replace HX := Aside0.mk (blk_below HX.out hd.below)
    replace HB := Aside0.mk (below_step HB.out hd.below)
    clear hd
    have c0 := cell_of_blk HX.out
    have r9 := (HB.out.cell (World.block_lt_of_cell? w _ RA.out)).trans RA.out
    go_wp2_with fail
    clear c0 r9
    refine (antiquaryref09_Metric.calls m true _ Qh1.out).mono ?_
    rintro e W ⟨rfl, hd⟩
    replace HX := Aside0.mk (blk_below HX.out hd.below)
    replace HB := Aside0.mk (below_step HB.out hd.below)
    clear hd
    have c0 := cell_of_blk HX.out
    have r9 := (HB.out.cell (World.block_lt_of_cell? w _ RA.out)).trans RA.out
    go_wp2_with fail
    clear c0 r9
    refine (antiquaryref09_Fit.calls K _ c1 l true _ (Kd.C_below HL.out HB.out) hc1 Qh2.out).mono ?_
    rintro e W ⟨rfl, hd⟩
    replace HX := Aside0.mk (blk_below HX.out hd.below)
    replace HB := Aside0.mk (below_step HB.out hd.below)
    clear hd
    have c0 := cell_of_blk HX.out
    have r9 := (HB.out.cell (World.block_lt_of_cell? w _ RA.out)).trans RA.out
    go_wp2_with fail
    clear c0 r9
    refine (antiquaryref04_Alike.calls K Aa ca (rd_L1 l 0) A3 c3 v true _ (Kd.C_below HA.out HB.out) hla (Kd.C_below HV.out HB.out) hc3 Qh4.out).mono ?_
    rintro e W ⟨rfl, hd⟩
    replace HX := Aside0.mk (blk_below HX.out hd.below)
    replace HB := Aside0.mk (below_step HB.out hd.below)
    clear hd
    have c0 := cell_of_blk HX.out
    have r9 := (HB.out.cell (World.block_lt_of_cell? w _ RA.out)).trans RA.out
    go_wp2_with fail
    refine (sanityC _).mono ?_
    rintro e w9 ⟨rfl, hb⟩
    have HB9 := Aside0.mk (below_step HB.out hb)
    clear hb
    go_wp2
    go_ret
    exact ⟨ret_bool (by simp), HB9.out⟩
  | t1 K h h1 h2 h3 h4 h5 h6 =>
    have Qh := Aside0.mk h
    have Qh1 := Aside0.mk h1
    have Qh2 := Aside0.mk h2
    have Qh4 := Aside0.mk h4
    clear h h1 h2 h4
    have h03 : 0 < (l.length : Int) := by omega
    obtain ⟨adA, Aa, ca, hAa, ra, hla, hCa⟩ := at_L1 HL.out 0 (by omega) h03
    rw [show ((0 : Int)).toNat = 0 from rfl, Addr.add_zero'] at ra
    have HA := Aside0.mk hCa
    subst hAa
    have RA := Aside0.mk ra
    clear ra hCa
    go_enter Tryz.func5, Tryz.ntmps5
    go_upto_region 1 with fail
    have HX := Aside0.mk (blk_new w (.cells #[.slice A2 g.length c2] 25))
    have HB := Aside0.mk (below_alloc (Below.refl _ w) (.cells #[.slice A2 g.length c2] 25))
    have c0 := cell_of_blk HX.out
    generalize hWn : w.alloc (.cells #[.slice A2 g.length c2] 25) = Wn at HX HB c0 ⊢
    clear hWn
    have r9 := (HB.out.cell (World.block_lt_of_cell? w _ RA.out)).trans RA.out
    go_wp2_with fail
    clear c0 r9
    refine (antiquaryref09_Few.calls K _ c1 l 25 true _ (Kd.C_below HL.out HB.out) hc1 Qh.out).mono ?_
    rintro e W ⟨rfl, hd⟩
    replace HX := Aside0.mk (blk_below HX.out hd.below)
    replace HB := Aside0.mk (below_step HB.out hd.below)
    clear hd
    have c0 := cell_of_blk HX.out
    have r9 := (HB.out.cell (World.block_lt_of_cell? w _ RA.out)).trans RA.out
    go_wp2_with fail
    clear c0 r9
    refine (antiquaryref09_Metric.calls m true _ Qh1.out).mono ?_
    rintro e W ⟨rfl, hd⟩
    replace HX := Aside0.mk (blk_below HX.out hd.below)
    replace HB := Aside0.mk (below_step HB.out hd.below)
    clear hd
    have c0 := cell_of_blk HX.out
    have r9 := (HB.out.cell (World.block_lt_of_cell? w _ RA.out)).trans RA.out
    go_wp2_with fail
    clear c0 r9
    refine (antiquaryref09_Fit.calls K _ c1 l true _ (Kd.C_below HL.out HB.out) hc1 Qh2.out).mono ?_
    rintro e W ⟨rfl, hd⟩
    replace HX := Aside0.mk (blk_below HX.out hd.below)
    replace HB := Aside0.mk (below_step HB.out hd.below)
    clear hd
    have c0 := cell_of_blk HX.out
    have r9 := (HB.out.cell (World.block_lt_of_cell? w _ RA.out)).trans RA.out
    go_wp2_with fail
    clear c0 r9
    refine (antiquaryref04_Alike.calls K Aa ca (rd_L1 l 0) A3 c3 v true _ (Kd.C_below HA.out HB.out) hla (Kd.C_below HV.out HB.out) hc3 Qh4.out).mono ?_
    rintro e W ⟨rfl, hd⟩
    replace HX := Aside0.mk (blk_below HX.out hd.below)
    replace HB := Aside0.mk (below_step HB.out hd.below)
    clear hd
    have c0 := cell_of_blk HX.out
    have r9 := (HB.out.cell (World.block_lt_of_cell? w _ RA.out)).trans RA.out
    go_wp2_with fail
    refine (sanityC _).mono ?_
    rintro e w9 ⟨rfl, hb⟩
    have HB9 := Aside0.mk (below_step HB.out hb)
    clear hb
    go_wp2
    go_ret
    exact ⟨ret_bool (by simp), HB9.out⟩
  | g K h h1 h2 h3 h4 h5 h6 h7 =>
    have Qh := Aside0.mk h
    have Qh1 := Aside0.mk h1
    have Qh2 := Aside0.mk h2
    have Qh4 := Aside0.mk h4
    have Qh7 := Aside0.mk h7
    clear h h1 h2 h4 h7
    have h03 : 0 < (l.length : Int) := by omega
    obtain ⟨adA, Aa, ca, hAa, ra, hla, hCa⟩ := at_L1 HL.out 0 (by omega) h03
    rw [show ((0 : Int)).toNat = 0 from rfl, Addr.add_zero'] at ra
    have HA := Aside0.mk hCa
    subst hAa
    have RA := Aside0.mk ra
    clear ra hCa
    go_enter Tryz.func5, Tryz.ntmps5
    go_upto_region 1 with fail
    have HX := Aside0.mk (blk_new w (.cells #[.slice A2 g.length c2] 25))
    have HB := Aside0.mk (below_alloc (Below.refl _ w) (.cells #[.slice A2 g.length c2] 25))
    have c0 := cell_of_blk HX.out
    generalize hWn : w.alloc (.cells #[.slice A2 g.length c2] 25) = Wn at HX HB c0 ⊢
    clear hWn
    have r9 := (HB.out.cell (World.block_lt_of_cell? w _ RA.out)).trans RA.out
    go_wp2_with fail
    clear c0 r9
    refine (antiquaryref09_Few.calls K _ c1 l 25 true _ (Kd.C_below HL.out HB.out) hc1 Qh.out).mono ?_
    rintro e W ⟨rfl, hd⟩
    replace HX := Aside0.mk (blk_below HX.out hd.below)
    replace HB := Aside0.mk (below_step HB.out hd.below)
    clear hd
    have c0 := cell_of_blk HX.out
    have r9 := (HB.out.cell (World.block_lt_of_cell? w _ RA.out)).trans RA.out
    go_wp2_with fail
    clear c0 r9
    refine (antiquaryref09_Metric.calls m true _ Qh1.out).mono ?_
    rintro e W ⟨rfl, hd⟩
    replace HX := Aside0.mk (blk_below HX.out hd.below)
    replace HB := Aside0.mk (below_step HB.out hd.below)
    clear hd
    have c0 := cell_of_blk HX.out
    have r9 := (HB.out.cell (World.block_lt_of_cell? w _ RA.out)).trans RA.out
    go_wp2_with fail
    clear c0 r9
    refine (antiquaryref09_Fit.calls K _ c1 l true _ (Kd.C_below HL.out HB.out) hc1 Qh2.out).mono ?_
    rintro e W ⟨rfl, hd⟩
    replace HX := Aside0.mk (blk_below HX.out hd.below)
    replace HB := Aside0.mk (below_step HB.out hd.below)
    clear hd
    have c0 := cell_of_blk HX.out
    have r9 := (HB.out.cell (World.block_lt_of_cell? w _ RA.out)).trans RA.out
    go_wp2_with fail
    clear c0 r9
    refine (antiquaryref04_Alike.calls K Aa ca (rd_L1 l 0) A3 c3 v true _ (Kd.C_below HA.out HB.out) hla (Kd.C_below HV.out HB.out) hc3 Qh4.out).mono ?_
    rintro e W ⟨rfl, hd⟩
    replace HX := Aside0.mk (blk_below HX.out hd.below)
    replace HB := Aside0.mk (below_step HB.out hd.below)
    clear hd
    have c0 := cell_of_blk HX.out
    have r9 := (HB.out.cell (World.block_lt_of_cell? w _ RA.out)).trans RA.out
    go_wp2_with fail
    clear c0 r9
    refine (antiquaryref27_Few.calls K A2 c2 g false _ (Kd.C_below HG.out HB.out) hc2 Qh7.out).mono ?_
    rintro e W ⟨rfl, hd⟩
    replace HX := Aside0.mk (blk_below HX.out hd)
    replace HB := Aside0.mk (below_step HB.out hd)
    clear hd
    have c0 := cell_of_blk HX.out
    have r9 := (HB.out.cell (World.block_lt_of_cell? w _ RA.out)).trans RA.out
    go_wp2_with fail
    refine (sanityC _).mono ?_
    rintro e w9 ⟨rfl, hb⟩
    have HB9 := Aside0.mk (below_step HB.out hb)
    clear hb
    go_wp2
    go_ret
    exact ⟨ret_bool (by simp), HB9.out⟩
structure FindsAt (m : Int) (l : List (List Int)) (v : List Int) (s t n : Int) (gs : List Hd) : Prop where
  all : ∃ x2 s2 b2 x3 s3 b3, graph_Within.f m l gs v s t = some (x2, s2, b2, 0) ∧ graph_Nearest.f m l gs v s n = some (x3, s3, b3, 0) ∧ (b2 = true → ∃ K, antiquaryref27_Same.f K x2 (aroundTo (keysV m l v) t l.length) = some true) ∧ (b2 = false → x2 = []) ∧ (b3 = true → ∃ K, antiquaryref27_Same.f K x3 ((ordV (keysV m l v) (idsV l.length)).take (mn n l.length).toNat) = some true)
structure GotF (m : Int) (l : List (List Int)) (v : List Int) (s t n : Int) (gb g : List Hd) : Prop where
  all : ∃ K b, antiquaryref27_Valid.f K l.length g = some b ∧ ((b = false ∧ FindsAt m l v s t n gb) ∨ (b = true ∧ ∃ r, graph_Check.f K m l g = some (r, 0) ∧ r ≠ -1 ∧ FindsAt m l v s t n gb) ∨ (b = true ∧ graph_Check.f K m l g = some (-1, 0) ∧ FindsAt m l v s t n g))
set_option maxHeartbeats 1500000 in
set_option maxRecDepth 100000 in
theorem findsYes (m : Int) (A1 : Option Addr) (c1 : Nat) (l : List (List Int)) (want : Int) (A2 : Option Addr) (c2 : Nat) (g : List Hd) (A3 : Option Addr) (c3 : Nat) (v : List Int) (a t k : Int) (w : World) (hr1 : Kd.C (Kd.slice 3 (Kd.int .i64)) w A1 l.length l) (hc1 : l.length ≤ c1) (hr2 : Kd.C k61 w A2 g.length g) (hc2 : g.length ≤ c2) (hr3 : Kd.C (Kd.int .i64) w A3 v.length v) (hc3 : v.length ≤ c3) (hw0 : 0 ≤ want) (hw1 : want ≤ 255) (ha0 : 0 ≤ a) (ha1 : a ≤ 255) (hk0 : 0 ≤ k) (hk1 : k ≤ 255) (K : Nat) (h : antiquaryref09_Few.f K l 25 = some true) (h1 : antiquaryref09_Metric.f m = some true) (h2 : antiquaryref09_Fit.f K l = some true) (h3 : 1 ≤ l.length) (h3b : l.length ≤ 4096) (h4 : antiquaryref04_Alike.f K (rd_L1 l 0) v = some true) (h5 : ¬ t < 0) (h6 : ¬ 134217728 < t) (h7 : antiquaryref27_Few.f K g = some true) (gb : List Hd) (hb : graph_Build.f m l (1 + want) = some (gb, 0)) (s : Int) (hs : s = a % (l.length : Int)) (n : Int) (hn : n = 1 + k % 64) (hgot : GotF m l v s t n gb g) (KO : Nat) (hO : antiquaryref27_Order.f KO m l v (idsV l.length) = some (ordV (keysV m l v) (idsV l.length))) (hkey : ∀ i : Nat, i < l.length → vector_Key.f 40 m (rd_L1 l i) v = some (rd (keysV m l v) i)) :
    Calls Tryz.prog 5 #[.int .i64 m, .slice A1 l.length c1, .int .u8 want, .agg #[.slice A2 g.length c2], .slice A3 v.length c3, .int .u8 a, .int .i64 t, .int .u8 k] w fun e w' => e = .returned (.bool true) ∧ Below w.heap.size w w' := by
  have hu := Tryz.underlying25
  have HL := Aside0.mk hr1
  have HG := Aside0.mk hr2
  have HV := Aside0.mk hr3
  clear hr1 hr2 hr3
  have Qh := Aside0.mk h
  have Qh1 := Aside0.mk h1
  have Qh2 := Aside0.mk h2
  have Qh4 := Aside0.mk h4
  have Qh7 := Aside0.mk h7
  have QB := Aside0.mk hb
  have QG := Aside0.mk hgot
  have QO := Aside0.mk hO
  have QK := Aside0.mk hkey
  have QS := Aside0.mk hs
  have QN := Aside0.mk hn
  clear h h1 h2 h4 h7 hb hgot hO hkey hs hn
  have h03 : 0 < (l.length : Int) := by omega
  obtain ⟨adA, Aa, ca, hAa, ra, hla, hCa⟩ := at_L1 HL.out 0 (by omega) h03
  rw [show ((0 : Int)).toNat = 0 from rfl, Addr.add_zero'] at ra
  have HA := Aside0.mk hCa
  subst hAa
  have RA := Aside0.mk ra
  clear ra hCa
  go_enter Tryz.func5, Tryz.ntmps5
  go_upto_region 1 with fail
  have HX := Aside0.mk (blk_new w (.cells #[.slice A2 g.length c2] 25))
  have HB := Aside0.mk (below_alloc (Below.refl _ w) (.cells #[.slice A2 g.length c2] 25))
  have c0 := cell_of_blk HX.out
  generalize hWn : w.alloc (.cells #[.slice A2 g.length c2] 25) = Wn at HX HB c0 ⊢
  clear hWn
  have r9 := (HB.out.cell (World.block_lt_of_cell? w _ RA.out)).trans RA.out
  go_wp2_with fail
  clear c0 r9
  refine (antiquaryref09_Few.calls K _ c1 l 25 true _ (Kd.C_below HL.out HB.out) hc1 Qh.out).mono ?_
  rintro e W ⟨rfl, hd⟩
  replace HX := Aside0.mk (blk_below HX.out hd.below)
  replace HB := Aside0.mk (below_step HB.out hd.below)
  clear hd
  have c0 := cell_of_blk HX.out
  have r9 := (HB.out.cell (World.block_lt_of_cell? w _ RA.out)).trans RA.out
  go_wp2_with fail
  clear c0 r9
  refine (antiquaryref09_Metric.calls m true _ Qh1.out).mono ?_
  rintro e W ⟨rfl, hd⟩
  replace HX := Aside0.mk (blk_below HX.out hd.below)
  replace HB := Aside0.mk (below_step HB.out hd.below)
  clear hd
  have c0 := cell_of_blk HX.out
  have r9 := (HB.out.cell (World.block_lt_of_cell? w _ RA.out)).trans RA.out
  go_wp2_with fail
  clear c0 r9
  refine (antiquaryref09_Fit.calls K _ c1 l true _ (Kd.C_below HL.out HB.out) hc1 Qh2.out).mono ?_
  rintro e W ⟨rfl, hd⟩
  replace HX := Aside0.mk (blk_below HX.out hd.below)
  replace HB := Aside0.mk (below_step HB.out hd.below)
  clear hd
  have c0 := cell_of_blk HX.out
  have r9 := (HB.out.cell (World.block_lt_of_cell? w _ RA.out)).trans RA.out
  go_wp2_with fail
  clear c0 r9
  refine (antiquaryref04_Alike.calls K Aa ca (rd_L1 l 0) A3 c3 v true _ (Kd.C_below HA.out HB.out) hla (Kd.C_below HV.out HB.out) hc3 Qh4.out).mono ?_
  rintro e W ⟨rfl, hd⟩
  replace HX := Aside0.mk (blk_below HX.out hd.below)
  replace HB := Aside0.mk (below_step HB.out hd.below)
  clear hd
  have c0 := cell_of_blk HX.out
  have r9 := (HB.out.cell (World.block_lt_of_cell? w _ RA.out)).trans RA.out
  go_wp2_with fail
  clear c0 r9
  refine (antiquaryref27_Few.calls K A2 c2 g true _ (Kd.C_below HG.out HB.out) hc2 Qh7.out).mono ?_
  rintro e W ⟨rfl, hd⟩
  replace HX := Aside0.mk (blk_below HX.out hd)
  replace HB := Aside0.mk (below_step HB.out hd)
  clear hd
  have c0 := cell_of_blk HX.out
  have r9 := (HB.out.cell (World.block_lt_of_cell? w _ RA.out)).trans RA.out
  go_wp2_with fail
  clear c0 r9
  refine (graph_Build.calls m _ c1 l (1 + want) gb 0 _ (Kd.C_below HL.out HB.out) hc1 QB.out).mono ?_
  rintro e W ⟨v3, rfl, hR, hb⟩
  replace hR := Kd.S_R hR
  obtain ⟨A4, c4, rfl⟩ := Kd.R_slice hR
  have hc4 := (Kd.R_reads' hR).2.1
  have hbk := below_alloc (below_step (Below.refl _ _) hb) (.cells #[.slice A4 gb.length c4] 25)
  have HQ4 := Aside0.mk (blk_new W (.cells #[.slice A4 gb.length c4] 25))
  have HG4 := Aside0.mk (Kd.C_alloc (Kd.R_reads' hR).2.2 (.cells #[.slice A4 gb.length c4] 25))
  have HP4 := Aside0.mk (blk_lt (blk_below HX.out hb))
  replace HX := Aside0.mk (blk_below HX.out hbk)
  replace HB := Aside0.mk (below_step HB.out hbk)
  clear hb hbk hR
  go_upto_region 6 with fail
  generalize hWn : W.alloc (.cells #[.slice A4 gb.length c4] 25) = Wn at HQ4 HG4 HX HB ⊢
  obtain ⟨p4, hp4⟩ : ∃ p, p = W.heap.size := ⟨_, rfl⟩
  rw [← hp4] at HQ4 ⊢
  rw [← hp4] at HP4
  clear hWn hp4
  have c0 := cell_of_blk HX.out
  obtain ⟨K', b6, hV6, hG6⟩ := QG.out
  have HV6 := Aside0.mk hV6
  replace QG := Aside0.mk hG6
  clear hV6 hG6
  go_wp2_with fail
  refine (antiquaryref27_Valid.calls K' l.length A2 c2 g b6 _ (Kd.C_below HG.out HB.out) hc2 HV6.out).mono ?_
  rintro e W ⟨rfl, hd⟩
  replace HB := Aside0.mk (below_step HB.out hd)
  replace HQ4 := Aside0.mk (blk_below HQ4.out hd)
  replace HG4 := Aside0.mk (Kd.C_below HG4.out hd)
  replace HX := Aside0.mk (blk_below HX.out hd)
  clear hd c0
  go_upto_if 84 with fail
  go_cut [19] (fun v19 wc => ∃ (gs : List Hd) (A5 : Option Addr) (c5 : Nat), Aside0 (FindsAt m l v s t n gs) ∧ Aside0 (gs.length ≤ c5) ∧ Aside0 (Kd.C k61 wc A5 gs.length gs) ∧ Aside0 (wc.heap[p4]? = some (.cells #[.slice A5 gs.length c5] 25 (0, 0))) ∧ Aside0 (Below w.heap.size w wc))
  case first =>
    have c0 := cell_of_blk HX.out
    rcases QG.out with ⟨rfl, hf⟩ | ⟨rfl, r, h1, h2, hf⟩ | ⟨rfl, h1, hf⟩
    · have HF6 := Aside0.mk hf
      clear hf
      go_wp2_with fail
      go_meet
      case rel => exact ⟨_, _, _, HF6, ⟨hc4⟩, HG4, HQ4, HB⟩
    · have HF6 := Aside0.mk hf
      have HC6 := Aside0.mk h1
      have hr1 : (r == -1) = false := beq_eq_false_iff_ne.mpr h2
      clear hf h1 h2
      go_wp2_with fail
      refine (graph_Check.calls K' m _ c1 l A2 c2 g r 0 _ (Kd.C_below HL.out HB.out) hc1 (Kd.C_below HG.out HB.out) hc2 HC6.out).mono ?_
      rintro e W ⟨rfl, hd⟩
      replace HB := Aside0.mk (below_step HB.out hd)
      replace HQ4 := Aside0.mk (blk_below HQ4.out hd)
      replace HG4 := Aside0.mk (Kd.C_below HG4.out hd)
      clear hd c0
      go_wp2_with fail
      go_meet
      case rel => exact ⟨_, _, _, HF6, ⟨hc4⟩, HG4, HQ4, HB⟩
    · have HF6 := Aside0.mk hf
      have HC6 := Aside0.mk h1
      clear hf h1
      go_wp2_with fail
      refine (graph_Check.calls K' m _ c1 l A2 c2 g (-1) 0 _ (Kd.C_below HL.out HB.out) hc1 (Kd.C_below HG.out HB.out) hc2 HC6.out).mono ?_
      rintro e W ⟨rfl, hd⟩
      replace HB := Aside0.mk (below_step HB.out hd)
      replace HQ4 := Aside0.mk (blk_below HQ4.out hd)
      replace HX := Aside0.mk (blk_below HX.out hd)
      clear hd c0
      have c0 := cell_of_blk HX.out
      have f4 := frozen_of_blk HQ4.out
      have e4 := cell_of_blk HQ4.out
      go_wp2_with fail
      go_meet
      case rel =>
        have hbs := below_set (g := p4) (j := 0) (v := .slice A2 g.length c2) HB.out (Nat.le_of_lt HP4.out)
        exact ⟨g, A2, c2, HF6, ⟨hc2⟩, ⟨Kd.C_below HG.out hbs⟩, ⟨blk_put HQ4.out 0 _ rfl⟩, ⟨hbs⟩⟩
  case rest =>
    obtain ⟨gs, A5, c5, HF, HC5, HG5, HQ5, HB⟩ := hcut
    go_upto_region 14 with fail
    obtain ⟨x2, s2, b2, x3, s3, b3, q1, q2, q3, q4, q5⟩ := HF.out
    have J1 := Aside0.mk q1
    have J2 := Aside0.mk q2
    have J3 := Aside0.mk q3
    have J4 := Aside0.mk q4
    have J5 := Aside0.mk q5
    clear q1 q2 q3 q4 q5 HF HX HQ4 HG4
    rw [show a % (l.length : Int) = s from QS.out.symm, show 1 + k % 64 = n from QN.out.symm]
    have c4' := cell_of_blk HQ5.out
    go_wp2_with fail
    refine (graph_Within.calls m _ c1 l A5 c5 gs A3 c3 v s t x2 s2 b2 0 _ (Kd.C_below HL.out HB.out) hc1 HG5.out HC5.out (Kd.C_below HV.out HB.out) hc3 J1.out).mono ?_
    rintro e W5 ⟨v5, rfl, hR, hd⟩
    obtain ⟨B2, d2, rfl⟩ := Kd.R_slice hR
    have hd2 := (Kd.R_reads' hR).2.1
    have HX2 := Aside0.mk (Kd.R_reads' hR).2.2
    replace HB := Aside0.mk (below_step HB.out hd)
    replace HQ5 := Aside0.mk (blk_below HQ5.out hd)
    replace HG5 := Aside0.mk (Kd.C_below HG5.out hd)
    clear hd hR c4'
    have c4' := cell_of_blk HQ5.out
    go_wp2_with fail
    refine (graph_Nearest.calls m _ c1 l A5 c5 gs A3 c3 v s n x3 s3 b3 0 _ (Kd.C_below HL.out HB.out) hc1 HG5.out HC5.out (Kd.C_below HV.out HB.out) hc3 J2.out).mono ?_
    rintro e W6 ⟨v6, rfl, hR, hd⟩
    obtain ⟨B3, d3, rfl⟩ := Kd.R_slice hR
    have hd3 := (Kd.R_reads' hR).2.1
    have HX3 := Aside0.mk (Kd.R_reads' hR).2.2
    replace HX2 := Aside0.mk (Kd.C_below HX2.out hd)
    replace HB := Aside0.mk (below_step HB.out hd)
    clear hd hR c4' HQ5 HG5
    go_wp2_with fail
    have HBW := Aside0.mk (Below.refl W6.heap.size W6)
    go_loopg [31, 32, 33] l.length (fun kq v31 v32 v33 w' => ∃ i : Nat, v33 = .int .i64 i ∧ Aside0 (i + kq = l.length) ∧ Aside0 (Kd.R (Kd.int .i64) 3 w' W6.heap.size (fun k_ => some k_ ≠ (v32 : Value).ownBlock) v31 (aroundTo (keysV m l v) t i)) ∧ Aside0 (Kd.R (Kd.int .i64) 3 w' W6.heap.size (fun k_ => some k_ ≠ (v31 : Value).ownBlock) v32 (idsV i)) ∧ Aside0 (Below W6.heap.size W6 w'))
    case atStart => exact ⟨0, rfl, ⟨by omega⟩, ⟨Kd.R_nil _ _ _ _ _⟩, ⟨Kd.R_nil _ _ _ _ _⟩, HBW⟩
    case round =>
      obtain ⟨i, rfl, HI, HN, HM, HW⟩ := hrel
      have hil := HI.out
      have hkl := ids_length i
      have hat' := aroundTo_length (keysV m l v) t i
      have HID := Aside0.mk (ids_succ i)
      by_cases hc : i < l.length
      · obtain ⟨adX, Ai, ci, hAX, ri, hli, hCi⟩ := at_L1 HL.out (i : Int) (by omega) (by omega)
        cases hAX
        rw [Int.toNat_natCast] at ri
        have r9 := ((below_step HB.out HW.out).cell (World.block_lt_of_cell? w _ ri)).trans ri
        have RI := Aside0.mk ri
        have HCi := Aside0.mk hCi
        have hi0 : (0 : Int) ≤ (i : Int) := by omega
        have hi1 : (i : Int) < (l.length : Int) := by omega
        clear ri hCi hc r9 hil hkl
        have hkl := ids_length i
        go_upto_region 24 with (first | ((with_reducible refine gate_builtin (b := .append) (xs := #[.tmp 142, .tmp 144]) rfl ?_); at_builtin; refine Kd.R_append (Kd.int .i64) (w0 := W6) W6.heap.size rfl (.tmp 142) (.tmp 144) 26 3 (.int .i64 0) 8 rfl Tryz.underlying26 info3 rfl (by decide) (by omega) u32 (idsV i) (i : Int) [.int .i64 i] (fun k_ => some k_ ≠ (u31 : Value).ownBlock) (fun _ => False) rfl rfl ?aP (fun _ hk => hk.elim) ?aF ?aO ?aB ?aS ?aL ?_; (case aP => exact rfl); (case aB => exact HW.out); (case aF => exact (fun k_ hk => Kd.fresh' (Kd.R_lt HN.out) k_ hk)); (case aO => exact HM.out); (case aS => exact (below_size HW.out)); (case aL => omega); intro v1_ w1_ ho hb hg hat; have n0_ := Aside0.mk (Kd.R_mono (ok' := fun k_ => some k_ ≠ v1_.ownBlock) (Kd.R_after (ok := (fun _ => True)) (Kd.R_mono HN.out (fun _ hk => ⟨trivial, hk⟩)) hg hat) (fun _ hk => hk.2)); have n1_ := Aside0.mk ho; have n2_ := Aside0.mk hb; clear HN HM HW; have HW := n2_; have HN := n0_; have HM := n1_; clear n0_ n1_ n2_ ho hb hg hat))
        have r9 := ((below_step HB.out HW.out).cell (World.block_lt_of_cell? w _ RI.out)).trans RI.out
        go_wp2_with fail
        refine (vector_Key.calls 40 m Ai ci (rd_L1 l i) A3 c3 v _ _ (Kd.C_below HCi.out (below_step HB.out HW.out)) hli (Kd.C_below HV.out (below_step HB.out HW.out)) hc3 (QK.out i (by omega))).mono ?_
        rintro e w3_ ⟨rfl, hd⟩
        replace HN := Aside0.mk (Kd.R_below HN.out hd)
        replace HM := Aside0.mk (Kd.R_below HM.out hd)
        replace HW := Aside0.mk (below_step HW.out hd)
        clear hd r9
        obtain ⟨q, hq⟩ : ∃ q, q = rd (keysV m l v) (i : Int) := ⟨_, rfl⟩
        rw [← hq]
        have HQ := Aside0.mk hq
        clear hq
        cases gk with
        | zero => exact absurd hi1 (by have := HI.out; omega)
        | succ k1 =>
        by_cases ht : q ≤ t
        · have htb : decide (q ≤ t) = true := decide_eq_true ht
          have HEQ := Aside0.mk (show aroundTo (keysV m l v) t (i + 1) = aroundTo (keysV m l v) t i ++ [(i : Int)] by rw [aroundTo, if_pos (by rw [← HQ.out]; exact ht)])
          clear ht
          go_wp2_with (first | ((with_reducible refine gate_builtin (b := .append) (xs := #[.tmp 155, .tmp 157]) rfl ?_); at_builtin; refine Kd.R_append (Kd.int .i64) (w0 := W6) W6.heap.size rfl (.tmp 155) (.tmp 157) 26 3 (.int .i64 0) 8 rfl Tryz.underlying26 info3 rfl (by decide) (by omega) u31 (aroundTo (keysV m l v) t i) (i : Int) [.int .i64 i] (fun k_ => some k_ ≠ (v1_ : Value).ownBlock) (fun _ => False) rfl rfl ?aP (fun _ hk => hk.elim) ?aF ?aO ?aB ?aS ?aL ?_; (case aP => exact rfl); (case aB => exact HW.out); (case aF => exact (fun k_ hk => Kd.fresh' (Kd.R_lt HM.out) k_ hk)); (case aO => exact HN.out); (case aS => exact (below_size HW.out)); (case aL => omega); intro v2_ w2_ ho hb hg hat; have n0_ := Aside0.mk (Kd.R_mono (ok' := fun k_ => some k_ ≠ v2_.ownBlock) (Kd.R_after (ok := (fun _ => True)) (Kd.R_mono HM.out (fun _ hk => ⟨trivial, hk⟩)) hg hat) (fun _ hk => hk.2)); have n1_ := Aside0.mk ho; have n2_ := Aside0.mk hb; clear HN HM HW; have HW := n2_; have HM := n0_; have HN := n1_; clear n0_ n1_ n2_ ho hb hg hat))
          go_roundg k1
          case measure => omega
          case rel => exact ⟨i + 1, by first | rfl | simp, ⟨by have := HI.out; omega⟩, ⟨by rw [HEQ.out]; exact HN.out⟩, ⟨by rw [HID.out]; exact HM.out⟩, HW⟩
        · have htb : decide (q ≤ t) = false := decide_eq_false ht
          have HEQ := Aside0.mk (show aroundTo (keysV m l v) t (i + 1) = aroundTo (keysV m l v) t i by rw [aroundTo, if_neg (by rw [← HQ.out]; exact ht)])
          clear ht
          go_wp2_with fail
          go_roundg k1
          case measure => omega
          case rel => exact ⟨i + 1, by first | rfl | simp, ⟨by have := HI.out; omega⟩, ⟨by rw [HEQ.out]; exact HN.out⟩, ⟨by rw [HID.out]; exact HM.out⟩, HW⟩
      · obtain rfl : i = l.length := by omega
        obtain ⟨A31, c31, rfl⟩ := Kd.R_slice HN.out
        obtain ⟨A32, c32, rfl⟩ := Kd.R_slice HM.out
        have hc31 := (Kd.R_reads' HN.out).2.1
        have hc32 := (Kd.R_reads' HM.out).2.1
        have HN2 := Aside0.mk (Kd.R_reads' HN.out).2.2
        have HM2 := Aside0.mk (Kd.R_reads' HM.out).2.2
        replace HB := Aside0.mk (below_step HB.out HW.out)
        replace HX2 := Aside0.mk (Kd.C_below HX2.out HW.out)
        replace HX3 := Aside0.mk (Kd.C_below HX3.out HW.out)
        have hn0 : 1 ≤ n := by have := QN.out; omega
        have hn1 : n ≤ 64 := by have := QN.out; omega
        have hil2 : decide ((l.length : Int) < (l.length : Int)) = false := by simp
        clear hc HBW hil hkl hat'
        cases b2 with
        | true =>
          obtain ⟨kS, hS⟩ := J3.out rfl
          have HS := Aside0.mk hS
          clear hS
          go_wp2_with fail
          refine (antiquaryref27_Same.calls kS B2 d2 x2 A31 c31 _ true _ HX2.out hd2 HN2.out hc31 HS.out).mono ?_
          rintro e w6 ⟨rfl, hd⟩
          replace HB := Aside0.mk (below_step HB.out hd.below)
          replace HX3 := Aside0.mk (Kd.C_below HX3.out hd.below)
          replace HM2 := Aside0.mk (Kd.C_below HM2.out hd.below)
          clear hd
          go_wp2_with fail
          refine (antiquaryref27_Order.calls KO m _ c1 l A3 c3 v A32 c32 (idsV l.length) (ordV (keysV m l v) (idsV l.length)) _ (Kd.C_below HL.out HB.out) hc1 (Kd.C_below HV.out HB.out) hc3 HM2.out hc32 QO.out).mono ?_
          rintro e w7 ⟨v7, rfl, hR, hd⟩
          obtain ⟨A7, c7, rfl⟩ := Kd.R_slice hR
          have hl7 := (ordV_length (keysV m l v) (idsV l.length)).trans (ids_length l.length)
          have hc7 := (Kd.R_reads' hR).2.1
          obtain ⟨ad7, hA7, _⟩ := Kd.at_int (Kd.R_reads' hR).2.2 0 (by omega) (by omega)
          subst hA7
          replace HB := Aside0.mk (below_step HB.out hd)
          replace HX3 := Aside0.mk (Kd.C_below HX3.out hd)
          have HR7 := Aside0.mk hR
          clear hd hR HN HM HN2 HM2 HX2 HW
          rw [hl7] at hc7 ⊢
          have hmn0 : 0 ≤ mn n (l.length : Int) := by unfold mn; split <;> omega
          have hmn1 : mn n (l.length : Int) ≤ (l.length : Int) := by unfold mn; split <;> omega
          have hmn2 : mn n (l.length : Int) ≤ (c7 : Int) := by omega
          have HL7 := Aside0.mk hl7
          clear hl7
          by_cases hnl : (l.length : Int) < n
          · have hn9 : (mn n (l.length : Int)).toNat = l.length := by unfold mn; rw [if_pos hnl]; omega
            have hn10 : l.length ≤ l.length := by omega
            clear hmn0 hmn1 hmn2
            go_upto_region 29 with fail
            have HN9 := Aside0.mk hn9
            clear hn9
            go_wp2_with fail
            refine (sanityC _).mono ?_
            rintro e w9 ⟨rfl, hd⟩
            replace HB := Aside0.mk (below_step HB.out hd)
            replace HX3 := Aside0.mk (Kd.C_below HX3.out hd)
            replace HR7 := Aside0.mk (Kd.R_below HR7.out hd)
            clear hd
            cases b3 with
            | false =>
              go_wp2
              go_ret
              exact ⟨ret_bool (by simp), HB.out⟩
            | true =>
              obtain ⟨kT, hT⟩ := J5.out rfl
              rw [HN9.out] at hT
              have hR8 := Kd.R_take HR7.out (show l.length ≤ (ordV (keysV m l v) (idsV l.length)).length by rw [HL7.out]; exact hn10)
              have hlen : ((ordV (keysV m l v) (idsV l.length)).take l.length).length = l.length := by rw [List.length_take, HL7.out]; omega
              have HS := antiquaryref27_Same.calls kT B3 d3 x3 (some ad7) c7 ((ordV (keysV m l v) (idsV l.length)).take l.length) true _ HX3.out hd3 (by have := (Kd.R_reads' hR8).2.2; exact this) (by omega) hT
              rw [hlen] at HS
              have HS2 := Aside0.mk HS
              clear HS hT hR8 hlen
              go_wp2_with fail
              refine HS2.out.mono ?_
              rintro e w10 ⟨rfl, hd⟩
              replace HB := Aside0.mk (below_step HB.out hd.below)
              clear hd
              go_wp2
              go_ret
              exact ⟨ret_bool (by simp), HB.out⟩
          · have hn9 : (mn n (l.length : Int)).toNat = n.toNat := by unfold mn; rw [if_neg hnl]
            have hn10 : n.toNat ≤ l.length := by omega
            clear hmn0 hmn1 hmn2
            go_upto_region 29 with fail
            have HN9 := Aside0.mk hn9
            clear hn9
            go_wp2_with fail
            refine (sanityC _).mono ?_
            rintro e w9 ⟨rfl, hd⟩
            replace HB := Aside0.mk (below_step HB.out hd)
            replace HX3 := Aside0.mk (Kd.C_below HX3.out hd)
            replace HR7 := Aside0.mk (Kd.R_below HR7.out hd)
            clear hd
            cases b3 with
            | false =>
              go_wp2
              go_ret
              exact ⟨ret_bool (by simp), HB.out⟩
            | true =>
              obtain ⟨kT, hT⟩ := J5.out rfl
              rw [HN9.out] at hT
              have hR8 := Kd.R_take HR7.out (show n.toNat ≤ (ordV (keysV m l v) (idsV l.length)).length by rw [HL7.out]; exact hn10)
              have hlen : ((ordV (keysV m l v) (idsV l.length)).take n.toNat).length = n.toNat := by rw [List.length_take, HL7.out]; omega
              have HS := antiquaryref27_Same.calls kT B3 d3 x3 (some ad7) c7 ((ordV (keysV m l v) (idsV l.length)).take n.toNat) true _ HX3.out hd3 (by have := (Kd.R_reads' hR8).2.2; exact this) (by omega) hT
              rw [hlen] at HS
              have HS2 := Aside0.mk HS
              clear HS hT hR8 hlen
              go_wp2_with fail
              refine HS2.out.mono ?_
              rintro e w10 ⟨rfl, hd⟩
              replace HB := Aside0.mk (below_step HB.out hd.below)
              clear hd
              go_wp2
              go_ret
              exact ⟨ret_bool (by simp), HB.out⟩
        | false =>
          have hx2 := J4.out rfl
          subst hx2
          go_wp2_with fail
          refine (antiquaryref27_Order.calls KO m _ c1 l A3 c3 v A32 c32 (idsV l.length) (ordV (keysV m l v) (idsV l.length)) _ (Kd.C_below HL.out HB.out) hc1 (Kd.C_below HV.out HB.out) hc3 HM2.out hc32 QO.out).mono ?_
          rintro e w7 ⟨v7, rfl, hR, hd⟩
          obtain ⟨A7, c7, rfl⟩ := Kd.R_slice hR
          have hl7 := (ordV_length (keysV m l v) (idsV l.length)).trans (ids_length l.length)
          have hc7 := (Kd.R_reads' hR).2.1
          obtain ⟨ad7, hA7, _⟩ := Kd.at_int (Kd.R_reads' hR).2.2 0 (by omega) (by omega)
          subst hA7
          replace HB := Aside0.mk (below_step HB.out hd)
          replace HX3 := Aside0.mk (Kd.C_below HX3.out hd)
          have HR7 := Aside0.mk hR
          clear hd hR HN HM HN2 HM2 HX2 HW
          rw [hl7] at hc7 ⊢
          have hmn0 : 0 ≤ mn n (l.length : Int) := by unfold mn; split <;> omega
          have hmn1 : mn n (l.length : Int) ≤ (l.length : Int) := by unfold mn; split <;> omega
          have hmn2 : mn n (l.length : Int) ≤ (c7 : Int) := by omega
          have HL7 := Aside0.mk hl7
          clear hl7
          by_cases hnl : (l.length : Int) < n
          · have hn9 : (mn n (l.length : Int)).toNat = l.length := by unfold mn; rw [if_pos hnl]; omega
            have hn10 : l.length ≤ l.length := by omega
            clear hmn0 hmn1 hmn2
            go_upto_region 29 with fail
            have HN9 := Aside0.mk hn9
            clear hn9
            go_wp2_with fail
            refine (sanityC _).mono ?_
            rintro e w9 ⟨rfl, hd⟩
            replace HB := Aside0.mk (below_step HB.out hd)
            replace HX3 := Aside0.mk (Kd.C_below HX3.out hd)
            replace HR7 := Aside0.mk (Kd.R_below HR7.out hd)
            clear hd
            cases b3 with
            | false =>
              go_wp2
              go_ret
              exact ⟨ret_bool (by simp), HB.out⟩
            | true =>
              obtain ⟨kT, hT⟩ := J5.out rfl
              rw [HN9.out] at hT
              have hR8 := Kd.R_take HR7.out (show l.length ≤ (ordV (keysV m l v) (idsV l.length)).length by rw [HL7.out]; exact hn10)
              have hlen : ((ordV (keysV m l v) (idsV l.length)).take l.length).length = l.length := by rw [List.length_take, HL7.out]; omega
              have HS := antiquaryref27_Same.calls kT B3 d3 x3 (some ad7) c7 ((ordV (keysV m l v) (idsV l.length)).take l.length) true _ HX3.out hd3 (by have := (Kd.R_reads' hR8).2.2; exact this) (by omega) hT
              rw [hlen] at HS
              have HS2 := Aside0.mk HS
              clear HS hT hR8 hlen
              go_wp2_with fail
              refine HS2.out.mono ?_
              rintro e w10 ⟨rfl, hd⟩
              replace HB := Aside0.mk (below_step HB.out hd.below)
              clear hd
              go_wp2
              go_ret
              exact ⟨ret_bool (by simp), HB.out⟩
          · have hn9 : (mn n (l.length : Int)).toNat = n.toNat := by unfold mn; rw [if_neg hnl]
            have hn10 : n.toNat ≤ l.length := by omega
            clear hmn0 hmn1 hmn2
            go_upto_region 29 with fail
            have HN9 := Aside0.mk hn9
            clear hn9
            go_wp2_with fail
            refine (sanityC _).mono ?_
            rintro e w9 ⟨rfl, hd⟩
            replace HB := Aside0.mk (below_step HB.out hd)
            replace HX3 := Aside0.mk (Kd.C_below HX3.out hd)
            replace HR7 := Aside0.mk (Kd.R_below HR7.out hd)
            clear hd
            cases b3 with
            | false =>
              go_wp2
              go_ret
              exact ⟨ret_bool (by simp), HB.out⟩
            | true =>
              obtain ⟨kT, hT⟩ := J5.out rfl
              rw [HN9.out] at hT
              have hR8 := Kd.R_take HR7.out (show n.toNat ≤ (ordV (keysV m l v) (idsV l.length)).length by rw [HL7.out]; exact hn10)
              have hlen : ((ordV (keysV m l v) (idsV l.length)).take n.toNat).length = n.toNat := by rw [List.length_take, HL7.out]; omega
              have HS := antiquaryref27_Same.calls kT B3 d3 x3 (some ad7) c7 ((ordV (keysV m l v) (idsV l.length)).take n.toNat) true _ HX3.out hd3 (by have := (Kd.R_reads' hR8).2.2; exact this) (by omega) hT
              rw [hlen] at HS
              have HS2 := Aside0.mk HS
              clear HS hT hR8 hlen
              go_wp2_with fail
              refine HS2.out.mono ?_
              rintro e w10 ⟨rfl, hd⟩
              replace HB := Aside0.mk (below_step HB.out hd.below)
              clear hd
              go_wp2
              go_ret
              exact ⟨ret_bool (by simp), HB.out⟩
instance (l : List (List Int)) : Decidable (fewL l) := by unfold fewL; infer_instance
theorem findsAt {m : Int} {l : List (List Int)} {v : List Int} {gs : List Hd} (hl : fewL l) (hr : rightF m l = true) (ha : alikeF (rdL l 0) v = true) (hv : ValidG l.length gs) (hs : ∀ h ∈ gs, h.f1.length ≤ 4096) (hex : ∀ j : Nat, j < l.length → Exact m l gs j) {s t n : Int} (h0 : 0 ≤ s) (h1 : s < (l.length : Int)) (ht0 : 0 ≤ t) (ht1 : t ≤ 134217728) (hn0 : 1 ≤ n) (hn1 : n ≤ 64) : FindsAt m l v s t n gs := by
  have hA : Asked m l gs v s := ⟨hr, hv, ha, h0, h1⟩
  have hbd := keysV_bd (m := m) (alike_all hr ha)
  have h25 := hl.1
  have hkl := keysV_length m l v
  have hw := within_all hr ha hv hex h0 h1 ht1
  have same : ∀ xs : List Int, xs.length ≤ 4096 → ∃ K, antiquaryref27_Same.f K xs xs = some true := fun xs hx => by
    obtain ⟨K, hK⟩ := same_ex xs xs hx
    exact ⟨K, by rw [hK, decide_eq_true rfl]⟩
  refine ⟨⟨(withinV m (keysV m l v) gs s t).1, (withinV m (keysV m l v) gs s t).2.1, (withinV m (keysV m l v) gs s t).2.2, (nearestV m (keysV m l v) gs s n l.length).1, (nearestV m (keysV m l v) gs s n l.length).2.1, (nearestV m (keysV m l v) gs s n l.length).2.2, ?_, ?_, fun hb => ?_, fun hb => ?_, fun hb => ?_⟩⟩
  · unfold graph_Within.f
    rw [if_pos (shortB_mk hs), if_pos ⟨hA, ht0, ht1⟩, if_pos (hiOk_of hbd (fun y hy => by simp at hy; subst hy; omega))]
  · unfold graph_Nearest.f
    rw [if_pos (shortB_mk hs), if_pos ⟨hA, hn0, hn1⟩, if_pos ⟨hiOk_of hbd hbd, hl.1⟩]
  · rw [if_pos hb] at hw
    rw [hw]
    unfold aroundV
    rw [hkl]
    exact same _ (by have := aroundTo_length (keysV m l v) t l.length; omega)
  · rw [if_neg (by rw [hb]; simp)] at hw
    exact hw
  · have := nearest_first hr ha hv hex h0 h1 hn0 hb
    rw [this]
    exact same _ (by rw [List.length_take, ordV_length, ids_length]; omega)
set_option maxHeartbeats 1000000 in
theorem findsC (m : Int) (A1 : Option Addr) (c1 : Nat) (l : List (List Int)) (want : Int) (A2 : Option Addr) (c2 : Nat) (g : List Hd) (A3 : Option Addr) (c3 : Nat) (v : List Int) (a t k : Int) (w : World) (hr1 : Kd.C (Kd.slice 3 (Kd.int .i64)) w A1 l.length l) (hc1 : l.length ≤ c1) (hr2 : Kd.C k61 w A2 g.length g) (hc2 : g.length ≤ c2) (hr3 : Kd.C (Kd.int .i64) w A3 v.length v) (hc3 : v.length ≤ c3)
    (hvl : v.length ≤ 9223372036854775807) (hw0 : 0 ≤ want) (hw1 : want ≤ 255) (ha0 : 0 ≤ a) (ha1 : a ≤ 255) (hk0 : 0 ≤ k) (hk1 : k ≤ 255) :
    Calls Tryz.prog 5 #[.int .i64 m, .slice A1 l.length c1, .int .u8 want, .agg #[.slice A2 g.length c2], .slice A3 v.length c3, .int .u8 a, .int .i64 t, .int .u8 k] w fun e w' => e = .returned (.bool true) ∧ Below w.heap.size w w' := by
  have no := findsNo m A1 c1 l want A2 c2 g A3 c3 v a t k w hr1 hc1 hr2 hc2 hr3 hc3
  obtain ⟨k1, b1, f1, g1⟩ := few09_ex l
  cases b1 with
  | false => exact no (.few k1 f1)
  | true =>
  have hl := g1 rfl
  by_cases hm : 1 ≤ m ∧ m ≤ 3
  case neg => exact no (.m k1 f1 (by rw [metric09, decide_eq_false hm]))
  have em : antiquaryref09_Metric.f m = some true := by rw [metric09, decide_eq_true hm]
  obtain ⟨k2, b2, f2, g2⟩ := fit_ex l hl
  cases b2 with
  | false => exact no (.fit (k1 + k2) (up_le (antiquaryref09_Few.mono _ _) f1 (by omega)) em (up_le (antiquaryref09_Fit.mono _) f2 (by omega)))
  | true =>
  have hfit := g2.1 rfl
  have hr : rightF m l = true := right_iff_fit.2 ⟨hm, hfit⟩
  obtain ⟨⟨hl1, hl2⟩, _⟩ := hfit
  have hl0 : (rdL l 0).length ≤ 40 := hl.2 _ (rdL_mem (by omega) (by omega))
  obtain ⟨k3, f3⟩ := alike04_ex (rdL l 0) v (by omega) hvl
  obtain ⟨k4, b4, f4, g4⟩ := few27_ex g
  obtain ⟨K, hK⟩ : ∃ K, K = k1 + k2 + k3 + k4 := ⟨_, rfl⟩
  have F1 := up_le (antiquaryref09_Few.mono _ _) f1 (show k1 ≤ K by omega)
  have F2 := up_le (antiquaryref09_Fit.mono _) f2 (show k2 ≤ K by omega)
  have F3 : antiquaryref04_Alike.f K (rd_L1 l 0) v = some (alikeF (rdL l 0) v) := f3 K (by omega)
  have F4 := up_le (antiquaryref27_Few.mono _) f4 (show k4 ≤ K by omega)
  cases ha : alikeF (rdL l 0) v with
  | false => rw [ha] at F3; exact no (.alike K F1 em F2 hl1 F3)
  | true =>
  rw [ha] at F3
  by_cases ht0 : t < 0
  · exact no (.t0 K F1 em F2 hl1 F3 ht0)
  by_cases ht1 : 134217728 < t
  · exact no (.t1 K F1 em F2 hl1 F3 ht0 ht1)
  cases b4 with
  | false => exact no (.g K F1 em F2 hl1 F3 ht0 ht1 F4)
  | true =>
  have hs : ∀ h ∈ g, h.f1.length ≤ 4096 := by
    intro h hh
    have := (g4 rfl).2 h hh
    omega
  have hal := alike_all hr ha
  have hkl := keysV_length m l v
  have h25 := hl.1
  have hb := build_ok m l (1 + want) hr (by omega) (by omega)
  have hbv := hoods_valid m l (1 + want) hr (by omega)
  have hbs : ∀ h ∈ hoodsV m l (1 + want) l.length, h.f1.length ≤ 4096 := fun h hh => Nat.le_trans (hoods_few m l (1 + want) hl2 h hh) hl2
  have s0 : 0 ≤ a % (l.length : Int) := Int.emod_nonneg _ (by omega)
  have s1 : a % (l.length : Int) < (l.length : Int) := Int.emod_lt_of_pos _ (by omega)
  obtain ⟨KO, hO⟩ := order_ex m hm l v hal hl2 (idsV l.length) (by rw [ids_length]; exact hl2) (fun x hx => (ids_mem _ _).1 hx)
  obtain ⟨kv, bv, v1, v2⟩ := valid27_ex (l.length : Int) g hs
  have hgot : GotF m l v (a % (l.length : Int)) t (1 + k % 64) (hoodsV m l (1 + want) l.length) g := by
    cases bv with
    | false => exact ⟨kv, false, v1, .inl ⟨rfl, findsAt hl hr ha hbv hbs (hoods_exact m l (1 + want)) s0 s1 (by omega) (by omega) (by omega) (by omega)⟩⟩
    | true =>
      have hvg := v2.1 rfl
      obtain ⟨kc, r, h1, h2⟩ := check_ex m l g hr hvg hs
      have V := up_le (antiquaryref27_Valid.mono _ _) v1 (show kv ≤ kv + kc by omega)
      by_cases c : r = -1
      · subst c
        exact ⟨kv + kc, true, V, .inr (.inr ⟨rfl, h1 _ (by omega), findsAt hl hr ha hvg hs (h2.1 rfl) s0 s1 (by omega) (by omega) (by omega) (by omega)⟩)⟩
      · exact ⟨kv + kc, true, V, .inr (.inl ⟨rfl, r, h1 _ (by omega), c, findsAt hl hr ha hbv hbs (hoods_exact m l (1 + want)) s0 s1 (by omega) (by omega) (by omega) (by omega)⟩)⟩
  exact findsYes m A1 c1 l want A2 c2 g A3 c3 v a t k w hr1 hc1 hr2 hc2 hr3 hc3 hw0 hw1 ha0 ha1 hk0 hk1 K F1 em F2 hl1 hl2 F3 ht0 ht1 F4 _ hb _ rfl _ rfl hgot KO hO (fun i hi => by
    have hi0 : (0 : Int) ≤ (i : Int) := by omega
    have hi1 : (i : Int) < (l.length : Int) := by omega
    rw [rd_keysV m l v _ hi0 hi1]
    exact key_f m hm (rdL l i) v (hal _ (rdL_mem hi0 hi1)) 40 (by omega))
end Go.Proofs.YthbkomkgciemiaaGreat.PKF
namespace Go.Proofs.YthbkomkgciemiaaGreat.graphFindsAll
open Go.ChangeShapes Go.WideShapes Go.ChangeAt Go.RowKit
open Go.Proofs.YthbkomkgciemiaaGreat.PKF (open_rows open_hoods open_list findsC)
set_option linter.unusedVariables false
theorem own : ownKnob Tryz.prog.godebug = none := by kernel_rfl
theorem laidOut : laidOutB Tryz.prog = true := by kernel_rfl
theorem one_cell (cs : Array Value) (h : cs.size = 1) : ∃ c, cs = #[c] := by
  obtain ⟨l⟩ := cs
  match l, h with
  | [c], _ => exact ⟨c, rfl⟩
set_option maxRecDepth 100000 in
theorem cells_graph : Tryz.prog.cellsOf 25 = 1 := by kernel_rfl
set_option maxRecDepth 100000 in
theorem graph_agg {W : World} {base : Nat} {v : Value} (h : Value.okWide Tryz.prog W .any base 25 v) : ∃ c, v = .agg #[c] := by
  obtain ⟨cs, rfl, hs⟩ := okWide_struct Tryz.underlying25 h
  rw [cells_graph] at hs
  obtain ⟨c, rfl⟩ := one_cell cs hs
  exact ⟨c, rfl⟩
set_option maxHeartbeats 400000 in
set_option maxRecDepth 100000 in
theorem lifted (os : Os) (started : os.Started) (H : Type) (enc : TypeId × Value → H) :
    ReturnsInHanded {} Tryz.checked os 5 .any (Rows.graphFindsAllSpec.pre6 enc Tryz.prog Tryz.f5 Rows.graphFindsAllRow.domain false) (Rows.graphFindsAllSpec.post enc Tryz.prog Tryz.f5 false true false false) := by
  refine returnsInHanded_of_change_sized (C := Tryz.checked) own started (by kernel_rfl) Tryz.func5
    (ChangeSpec.witness6 (enc := enc) (C := Tryz.checked) false ⟨#[], #[.int .i64 0, .slice none 0 0, .int .u8 0, .agg #[.slice none 0 0], .slice none 0 0, .int .u8 0, .int .i64 0, .int .u8 0], []⟩ 8 (by kernel_rfl) (by kernel_rfl) (by kernel_rfl) (by kernel_rfl)) ?_
  intro W base args ds gs before hval0 hW hcnd hsz0 _
  have hval : ∀ (j : Nat) t v, Tryz.f5.params[j]? = some t → args[j]? = some v → Value.okWide Tryz.prog W .any base t v := hval0
  have hW' := hW
  obtain ⟨p, q, hA0, hV, rfl, hfz, hnd⟩ := hW
  have hA : DataW.TrodAll enc Tryz.prog W 0 (fun _ => true) true Tryz.f5.params.toList args.toList ds p := hA0
  rw [Tryz.params5] at hA hval
  obtain ⟨v0, vs0, d0, ds0, p0, q0, hargs, rfl, rfl, h0, r0⟩ := trodAll_cons hA
  obtain ⟨v1, vs1, d1, ds1, p1, q1, rfl, rfl, rfl, h1, r1⟩ := trodAll_cons r0
  obtain ⟨v2, vs2, d2, ds2, p2, q2, rfl, rfl, rfl, h2, r2⟩ := trodAll_cons r1
  obtain ⟨v3, vs3, d3, ds3, p3, q3, rfl, rfl, rfl, h3, r3⟩ := trodAll_cons r2
  obtain ⟨v4, vs4, d4, ds4, p4, q4, rfl, rfl, rfl, h4, r4⟩ := trodAll_cons r3
  obtain ⟨v5, vs5, d5, ds5, p5, q5, rfl, rfl, rfl, h5, r5⟩ := trodAll_cons r4
  obtain ⟨v6, vs6, d6, ds6, p6, q6, rfl, rfl, rfl, h6, r6⟩ := trodAll_cons r5
  obtain ⟨v7, vs7, d7, ds7, p7, q7, rfl, rfl, rfl, h7, r7⟩ := trodAll_cons r6
  obtain ⟨rfl, rfl, rfl⟩ := trodAll_nil r7
  obtain rfl : args = #[v0, v1, v2, v3, v4, v5, v6, v7] := by cases args; simp_all
  obtain ⟨rfl, rfl⟩ := trodVars_none hV
  obtain ⟨a0, rfl, rfl, rfl, w0⟩ := open_int Tryz.underlying3 (hval 0 3 v0 rfl rfl) h0
  obtain ⟨b1, len1, cap1, rfl⟩ := okWide_slice Tryz.underlying22 (hval 1 22 v1 rfl rfl)
  have k1 := h1
  have lt1 : ∀ x ∈ p1, x.block < W.heap.size := by obtain ⟨m, hm⟩ := k1; exact DataW.trod_lt m _ _ _ hm
  obtain ⟨a2, rfl, rfl, rfl, w2⟩ := open_int Tryz.underlying5 (hval 2 5 v2 rfl rfl) h2
  obtain ⟨u20, u21⟩ := bounds_u8 w2
  have hv3 := hval 3 25 v3 rfl rfl
  obtain ⟨g3, rfl⟩ := graph_agg hv3
  have k3 := h3
  have lt3 : ∀ x ∈ p3, x.block < W.heap.size := by obtain ⟨m, hm⟩ := k3; exact DataW.trod_lt m _ _ _ hm
  obtain ⟨b4, len4, cap4, rfl⟩ := okWide_slice Tryz.underlying26 (hval 4 26 v4 rfl rfl)
  have k4 := h4
  have lt4 : ∀ x ∈ p4, x.block < W.heap.size := by obtain ⟨m, hm⟩ := k4; exact DataW.trod_lt m _ _ _ hm
  obtain ⟨a5, rfl, rfl, rfl, w5⟩ := open_int Tryz.underlying5 (hval 5 5 v5 rfl rfl) h5
  obtain ⟨u50, u51⟩ := bounds_u8 w5
  obtain ⟨a6, rfl, rfl, rfl, w6⟩ := open_int Tryz.underlying3 (hval 6 3 v6 rfl rfl) h6
  obtain ⟨a7, rfl, rfl, rfl, w7⟩ := open_int Tryz.underlying5 (hval 7 5 v7 rfl rfl) h7
  obtain ⟨u70, u71⟩ := bounds_u8 w7
  obtain ⟨fu1, hf1⟩ := h1
  obtain ⟨l1, A1, c1, hc1, hl1, hC1⟩ := open_rows hf1
  simp [Value.cells] at hc1
  obtain ⟨rfl, rfl, rfl⟩ := hc1
  obtain ⟨fu3, hf3⟩ := h3
  obtain ⟨xs, n4, _, _, _, hxl, hfield⟩ := DataW.trod_struct Tryz.underlying25 hf3
  have hz := hfield 0 _ rfl
  have hxl1 : xs.length = 1 := by rw [hxl]; rfl
  obtain ⟨x0, rfl⟩ : ∃ x, xs = [x] := by
    match xs, hxl1 with
    | [x], _ => exact ⟨x, rfl⟩
  have hce : Tryz.prog.cellsOf 23 = 1 := by kernel_rfl
  have hz' : DataW.trod enc Tryz.prog W 0 (fun _ => true) true n4 23 [g3] = some x0 := by
    have e : (((Value.agg #[g3]).cells.toList.drop 0).take (Tryz.prog.cellsOf 23)) = [g3] := by rw [hce]; rfl
    rw [← e]; exact hz
  obtain ⟨l3, A3, c3, hc3, hl3, hC3⟩ := open_hoods hz'
  have hc3' : g3 = .slice A3 l3.length c3 := by
    simp at hc3
    exact hc3
  subst hc3'
  clear hz hz' hfield
  obtain ⟨fu4, hf4⟩ := h4
  obtain ⟨l4, A4, c4, hc4, hl4, hC4⟩ := open_list hf4
  simp [Value.cells] at hc4
  obtain ⟨rfl, rfl, rfl⟩ := hc4
  clear hA0 hval0 hsz0 hA r0 r1 r2 r3 r4 r5 r6 r7
  refine (findsC a0 _ _ l1 a2 _ _ l3 _ _ l4 a5 a6 a7 W hC1 hl1 hC3 hl3 hC4 hl4 (by have := hC4.2.1; exact this) u20 u21 u50 u51 u70 u71).mono fun e W' ⟨he, bel⟩ => ?_
  subst he
  exact ⟨_, rfl, _, _, _, [], _, [], hW', trodAll_mk1 (shut_bool Tryz.underlying4 _), (trodAll_cons_mk (shut_int Tryz.underlying3 w0) (trodAll_cons_mk (Below.trod laidOut (by kernel_rfl) (of_decide_eq_true (by kernel_rfl)) k1 bel lt1) (trodAll_cons_mk (shut_int Tryz.underlying5 w2) (trodAll_cons_mk (Below.trod laidOut (by kernel_rfl) (of_decide_eq_true (by kernel_rfl)) k3 bel lt3) (trodAll_cons_mk (Below.trod laidOut (by kernel_rfl) (of_decide_eq_true (by kernel_rfl)) k4 bel lt4) (trodAll_cons_mk (shut_int Tryz.underlying5 w5) (trodAll_cons_mk (shut_int Tryz.underlying3 w6) (trodAll_cons_mk (shut_int Tryz.underlying5 w7) trodAll_mk0)))))))), rfl, bel.frame _, fun h => by cases h⟩
theorem over : Rows.graphFindsAllRow.holds Tryz.pinned (OpenSpec.ofChange Rows.graphFindsAllSpec) :=
  OpenClaim.holds_of_wide 5 Tryz.f5 rfl rfl rfl rfl rfl rfl rfl ⟨rfl, rfl, rfl, rfl, rfl⟩ rfl rfl rfl rfl rfl (by kernel_rfl) Tryz.func5 (by kernel_rfl)
    (of_decide_eq_true (by kernel_rfl)) (by unfold Func.isWrapper; first | (rw [if_pos (by decide +kernel)]; kernel_rfl) | (rw [if_neg (by decide +kernel)]; exact ⟨rfl, rfl⟩))
    (fun os started H enc _ => lifted os started H enc)
theorem proved : Rows.GraphFindsAllSaid := over
#print axioms proved
end Go.Proofs.YthbkomkgciemiaaGreat.graphFindsAll
namespace Go.Proofs.YthbkomkgciemiaaGreat
theorem graphFindsAll_holds : Rows.GraphFindsAllSaid := graphFindsAll.proved
end Go.Proofs.YthbkomkgciemiaaGreat
