/- Texts of this claim, merged: part 8. -/
import Derived.Test.YthbkomkgciemiaaGreatCF7
import Derived.Sort.OwnSorted
import Derived.Shelf.GgSortFunc.SW
import Derived.Below
import Derived.Test.YthbkomkgciemiaaGreatCF4
import Derived.Test.YthbkomkgciemiaaGreatCF3
import Derived.Test.YthbkomkgciemiaaGreatCF6
import Derived.Test.YthbkomkgciemiaaGreatCF5
namespace Go.Proofs.YthbkomkgciemiaaGreat.PKF
open Go.Proofs.YthbkomkgciemiaaGreat.RF
open Go.RowKit Go.Proofs.YthbkomkgciemiaaGreatW.PrintWords Go.Proofs.YthbkomkgciemiaaGreatW.PrintLast Go.Proofs.YthbkomkgciemiaaGreatW.PrintMore
attribute [local go_sem] max2_int min2_int max_two min_two max_three min_three max_four min_four
set_option linter.unusedVariables false
set_option linter.unusedSimpArgs false
open Go.RowKit
open Go.Sort (grow)
attribute [local go_sem] Oper.semAt_some
def cover2 (m a b radius : Int) : Bool := match metric_High.f m a b with
  | some r => decide (r ≤ radius)
  | none => false
def nearestV (m : Int) (ks : List Int) (g : List Hd) (from_ k : Int) (n : Nat) : List Int × Int × Bool :=
  let a := lastF from_ (walkV ks g from_)
  let o := sortF (orderF ks) (rd_T61 g a).f1
  if k ≤ (o.length : Int) then (o.take k.toNat, a, decide (o.length = n) || cover2 m (rd ks a) (rd ks (rd o (k - 1))) (rd_T61 g a).f0)
  else (o, a, decide (o.length = n))
def DN (s1 k : Nat) : Prop := k = s1 + 1
def NI (from_ : Int) (s1 : Nat) (pre : List Int) (A : World) : Prop := A.heap[s1 + 1]? = some (.cells #[.int .i64 (lastF from_ pre)] 3 (0, 0))
theorem beq_int_nat (a b : Nat) : ((a : Int) == (b : Int)) = decide (a = b) := by
  by_cases h : a = b
  · subst h; simp
  · have h2 : ¬ ((a : Int) = (b : Int)) := by omega
    simp [h, h2]
theorem insJ_mem (F : Int → Int → Int) (a : Nat) : ∀ k xs, a + k < xs.length → ∀ x ∈ insJ F a k xs, x ∈ xs
  | 0, xs, _ => fun x hx => hx
  | k + 1, xs, h => by
    intro x hx
    unfold insJ at hx
    split at hx
    · exact swapL_mem (by omega) x (insJ_mem F a k _ (by rw [swapL_length]; omega) x hx)
    · exact hx
theorem insTo_mem (F : Int → Int → Int) (a : Nat) : ∀ d xs, a + d < xs.length → ∀ x ∈ insTo F a d xs, x ∈ xs
  | 0, xs, _ => fun x hx => hx
  | d + 1, xs, h => by
    intro x hx
    unfold insTo at hx
    exact insTo_mem F a d xs (by omega) x (insJ_mem F a (d + 1) _ (by rw [insTo_length]; omega) x hx)
theorem sortF_mem (F : Int → Int → Int) (xs : List Int) (h : 1 ≤ xs.length) : ∀ x ∈ sortF F xs, x ∈ xs := by
  unfold sortF
  split
  · exact insTo_mem F 0 _ xs (by omega)
  · exact fun x hx => (List.mergeSort_perm xs _).mem_iff.1 hx
theorem own_R_take {W : World} {base base' g n cap : Nat} {xs : List Int} (h : W.ownsRow base 3 1 (.slice (some ⟨g, 0, none⟩) n cap) n (nums .i64 xs)) (m : Nat) (hm : m ≤ n) (hx : xs.length = n) (hb : base' ≤ base) : Kd.R (Kd.int .i64) 3 W base' (fun _ => True) (.slice (some ⟨g, 0, none⟩) m cap) (xs.take m) := by
  have h1 := own_take (own_lower h hb) hm
  have hl : (xs.take m).length = m := by simp; omega
  have e : (nums IntKind.i64 xs).take (m * 1) = nums .i64 (xs.take m) := by rw [Nat.mul_one, nums, ← List.map_take]; rfl
  rw [e] at h1
  have h2 : W.ownsRow base' 3 1 (.slice (some ⟨g, 0, none⟩) m cap) (xs.take m).length (nums .i64 (xs.take m)) := by rw [hl]; exact h1
  exact Kd.R_of_own (enc := Value.int .i64) (h1 := fun _ => rfl) h2 (fun _ _ => trivial)
theorem sortF_length (F : Int → Int → Int) (xs : List Int) : (sortF F xs).length = xs.length := by
  unfold sortF
  split
  · exact insTo_length _ _ _ _
  · exact List.length_mergeSort xs
theorem lastF_in {n : Nat} {from_ : Int} {xs : List Int} (h0 : 0 ≤ from_ ∧ from_ < n) (h : ∀ x ∈ xs, 0 ≤ x ∧ x < (n : Int)) : 0 ≤ lastF from_ xs ∧ lastF from_ xs < n := by
  unfold lastF
  rw [List.getLastD_eq_getLast?]
  cases hx : xs.getLast? with
  | none => simpa using h0
  | some y => simpa using h y (List.mem_of_getLast? hx)
theorem results_tmp4 {fn : Func} {t u v x : Tmp} (h : fn.results = #[.tmp t, .tmp u, .tmp v, .tmp x]) (tmps : Array Value) (P : Program) (w : World) :
    (results fn tmps).run P w = .ok (.tuple #[tmps.getD t undef, tmps.getD u undef, tmps.getD v undef, tmps.getD x undef]) w := by
  simp [results, h]
set_option maxHeartbeats 2000000 in
set_option maxRecDepth 100000 in
theorem nearestOkC (m : Int) (A1 : Option Addr) (c1 : Nat) (l : List (List Int)) (A2 : Option Addr) (c2 : Nat) (g : List Hd) (A3 : Option Addr) (c3 : Nat) (v : List Int) (from_ k : Int) (w : World) (hr1 : Kd.C (Kd.slice 3 (Kd.int .i64)) w A1 l.length l) (hc1 : l.length ≤ c1) (hr2 : Kd.C k61 w A2 g.length g) (hc2 : g.length ≤ c2) (hr3 : Kd.C (Kd.int .i64) w A3 v.length v) (hc3 : v.length ≤ c3) (hok : BegOk m l g v from_)
    (hk0 : 1 ≤ k) (hk1 : k ≤ 64) (hsmall : ∀ h ∈ g, SortOk (orderF (keysV m l v)) h.f1) (hH : ∀ a b : Int, 0 ≤ a → a < l.length → 0 ≤ b → b < l.length → ∃ r, metric_High.f m (rd (keysV m l v) a) (rd (keysV m l v) b) = some r) :
    Calls Tryz.prog 11 #[.int .i64 m, .slice A1 l.length c1, .agg #[.slice A2 g.length c2], .slice A3 v.length c3, .int .i64 from_, .int .i64 k] w fun e w' => ∃ v0 : Value, e = .returned (.tuple #[v0, .int .i64 (nearestV m (keysV m l v) g from_ k l.length).2.1, .bool (nearestV m (keysV m l v) g from_ k l.length).2.2, .int .i64 0]) ∧ Kd.R (Kd.int .i64) 3 w' w.heap.size (fun _ => True) v0 (nearestV m (keysV m l v) g from_ k l.length).1 ∧ Below w.heap.size w w' := by
  have hu := Tryz.underlying65
  have hu2 := Tryz.underlying61
  have hu3 := Tryz.underlying25
  have HBg := Aside0.mk (fun W (hW : Below w.heap.size w W) => beginYes m A1 c1 l A2 c2 g A3 c3 v from_ W (Kd.C_below hr1 hW) hc1 (Kd.C_below hr2 hW) hc2 (Kd.C_below hr3 hW) hc3 hok.right hok.valid hok.one hok.alike hok.h0 hok.h1)
  have HG := Aside0.mk hr2
  have hkl := keysV_length m l v
  clear hr1 hr2 hr3
  generalize hks : keysV m l v = ks at HBg hkl hH hsmall ⊢
  have hok2 : GoodG ks.length g := by rw [hkl]; exact hok.good
  have h0 := hok.h0
  have h1 : from_ < ks.length := by rw [hkl]; exact hok.h1
  have hfew : ks.length ≤ 4096 := by rw [hkl]; exact hok.few
  have hH2 : ∀ a b : Int, 0 ≤ a → a < ks.length → 0 ≤ b → b < ks.length → ∃ r, metric_High.f m (rd ks a) (rd ks b) = some r := by rw [hkl]; exact hH
  have hkl1 : ks.length ≤ l.length := by omega
  have hkl2 : l.length ≤ ks.length := by omega
  have HH := Aside0.mk hH2
  have HV := Aside0.mk hok2
  have HSM := Aside0.mk hsmall
  clear hks hok hok2 hkl hH hH2 hsmall
  refine callsIn_wide (n := 0).1 ?_
  refine callsIn_of_wp_marks Tryz.func11 rfl trivial ?_ rfl
  simp only [Tryz.ntmps11, List.size_toArray, List.length_cons, List.length_nil, Nat.reduceAdd, Nat.reduceSub, Array.replicate_succ, Array.replicate_zero, List.push_toArray, List.append_toArray, List.nil_append, List.cons_append]
  have HBg2 := Aside0.mk (fun W (hW : Below w.heap.size w W) => (callsIn_wide (n := 0)).2 (HBg.out W hW))
  gi_wp2
  refine ⟨trivial, rfl, (HBg2.out _ (below_alloc (Below.refl _ w) _)).mono ?_⟩
  rintro e w1 ⟨A4, c4, rfl, hR, hb⟩
  have hsz := hb.size
  simp only [World.size_alloc] at hsz hR
  have HR := Aside0.mk (Kd.R_reads' hR).2.2
  have HA := Aside0.mk (blk_of_R hR)
  have HB := Aside0.mk (below_step (below_alloc (Below.refl _ w) _) hb)
  have HX := Aside0.mk (blk_below (blk_new w (.cells #[.slice A2 g.length c2] 25)) hb)
  clear hb hR HBg HBg2
  unfold searchV
  gi_wp2
  have HW := Aside0.mk (fun W : World => (callsIn_wide (n := 0)).2 (walkC (.agg #[.int .i64 m, .slice A1 l.length c1, .slice A2 g.length c2, .slice A4 ks.length c4]) from_ W _ rfl rfl))
  refine ⟨trivial, rfl, (HW.out _).mono ?_⟩
  rintro e w2 ⟨rfl, hw2⟩
  simp only [World.size_alloc] at hw2 ⊢
  have hsz2 : w2.heap.size = (w1.heap.size + 1 + 1 + 1) + 1 := by rw [hw2]; simp
  have hb2 : Below w1.heap.size w1 w2 := by rw [hw2]; exact below_alloc (below_alloc (below_alloc (below_alloc (Below.refl _ w1) _) _) _) _
  obtain ⟨S, hS⟩ : ∃ S : Obj, S = .cells #[.int .i64 m, .slice A1 l.length c1, .slice A2 g.length c2, .slice A4 ks.length c4] 65 := ⟨_, rfl⟩
  obtain ⟨Fb, hFb⟩ : ∃ S : Obj, S = .cells #[.int .i64 from_] 3 := ⟨_, rfl⟩
  rw [← hS, ← hFb] at hw2
  have hp0 : w2.heap[w1.heap.size]? = some S := by
    rw [hw2]
    exact blk_alloc (blk_alloc (blk_alloc (blk_new w1 S) _) _) _
  have hp1 : w2.heap[w1.heap.size + 1]? = some Fb := by
    rw [hw2]
    have := blk_alloc (blk_alloc (blk_new (w1.alloc S) Fb) S) Fb
    simpa using this
  have hp2 : w2.heap[w1.heap.size + 1 + 1]? = some S := by
    rw [hw2]
    have := blk_alloc (blk_new ((w1.alloc S).alloc Fb) S) Fb
    simpa using this
  have hp3 : w2.heap[w1.heap.size + 1 + 1 + 1]? = some Fb := by
    rw [hw2]
    have := blk_new (((w1.alloc S).alloc Fb).alloc S) Fb
    simpa using this
  subst hS hFb
  clear hw2
  have HBZ := Aside0.mk (HB.out.trans (hb2.mono (show w.heap.size ≤ w1.heap.size by omega)))
  have HSQ := Aside0.mk (walk_seqD (DN w1.heap.size) m A1 l.length c1 A2 c2 g A4 c4 ks from_ (w1.heap.size + 1 + 1) (w1.heap.size + 1 + 1 + 1) w2 hp2 hp3 (by omega) hsz2 (fun h => by unfold DN at h; omega) (fun h => by unfold DN at h; omega)
    (fun W hW => Kd.C_below HG.out (HB.out.trans ((hb2.mono (by omega)).trans ((hW.mono (by omega)).below (fun k hk h => by unfold DN at h; omega)))))
    (fun W hW => C_blkI HR.out (fun ad hA hn => by have h1 := HA.out ad hA hn; exact (hW.block _ (by omega) (fun h => by unfold DN at h; omega)).trans (hb2.block _ (by omega)))) HV.out h0 h1)
  have HP0 := Aside0.mk hp0
  have HP1 := Aside0.mk hp1
  have HB2 := Aside0.mk hb2
  have hszA : w2.heap.size ≤ w1.heap.size + 1 + 1 + 1 + 1 := by omega
  have hszB : w1.heap.size + 1 + 1 + 1 + 1 ≤ w2.heap.size := by omega
  rw [← hsz2] at HSQ
  clear hp0 hp1 hp2 hp3 hb2 hsz2
  gi_wp2
  refine wp_rangeD (gf := 57) (lb := #[.pointer (some ⟨w1.heap.size + 1 + 1 + 1, 0, none⟩), .pointer (some ⟨w1.heap.size + 1 + 1, 0, none⟩)]) rfl (enters_of Tryz.func57 (by kernel_rfl) rfl) HSQ.out (Bx.refl _ _) (by omega) (by omega) (fun _ => rfl)
    (NI from_ w1.heap.size) (fun _ _ _ => False)
    ?fI (fun _ _ _ _ hs _ => hs) HP1.out (fun x a' _ => a' = { tmps := #[.int .i64 m, .slice A1 l.length c1, .agg #[.slice A2 g.length c2], .slice A3 v.length c3, .int .i64 from_, .int .i64 k, undef, undef, .pointer (some ⟨w.heap.size, 0, none⟩), undef, undef, undef, .slice none 0 0, .int .i64 0, .bool false, .int .i64 0, .pointer (some ⟨w1.heap.size, 0, none⟩), .bool true, .pointer (some ⟨w1.heap.size + 1, 0, none⟩), .int .i64 x, undef, undef, undef, .tuple #[.agg #[.int .i64 m, .slice A1 l.length c1, .slice A2 g.length c2, .slice A4 ks.length c4], .bool true], .int .i64 m, .slice A1 l.length c1, .agg #[.slice A2 g.length c2], .slice A3 v.length c3, .int .i64 from_, .tuple #[.agg #[.int .i64 m, .slice A1 l.length c1, .slice A2 g.length c2, .slice A4 ks.length c4], .bool true], .agg #[.int .i64 m, .slice A1 l.length c1, .slice A2 g.length c2, .slice A4 ks.length c4], .bool true, .bool true, .bool false, .bool false, .int .i64 k, .bool (decide (k < 1)), .bool (decide (k < 1)), .bool (decide (k < 1)), .int .i64 k, .bool (decide (64 < k)), .bool (decide (k < 1) || decide (64 < k)), .int .i64 from_, .agg #[.int .i64 m, .slice A1 l.length c1, .slice A2 g.length c2, .slice A4 ks.length c4], .int .i64 from_, .func (.func 57) #[] #[.pointer (some ⟨w1.heap.size + 1 + 1 + 1, 0, none⟩), .pointer (some ⟨w1.heap.size + 1 + 1, 0, none⟩)], .int .i64 x, undef, undef, undef, undef, undef, undef, undef, undef, undef, undef, undef, undef, undef, undef, undef, undef, undef, undef, undef, undef, undef, undef, undef, undef, undef, undef, undef, undef, undef, undef, undef, undef, undef, undef, undef, undef, undef, undef, undef, undef, undef, undef, undef, undef, undef, undef, undef], defers := [] }) (fun _ _ _ _ _ hs _ => hs)
    ?assign ?body ?done ?stop
  case fI =>
    rintro s A B h1 ⟨hbl, hm⟩
    exact (hbl.block _ (by omega)).trans h1
  case assign =>
    intro l_ pre x rest A K hxs hi hsz3 hb hK
    simp only [encI]
    gi_wp2
    exact hK _ _ (Below.refl _ _) rfl
  case body =>
    rintro l_ pre x rest a' A hxs hL rfl hsz3 hb
    have hL' : A.heap[w1.heap.size + 1]? = some (.cells #[.int .i64 (lastF from_ pre)] 3 (0, 0)) := hL
    have hff := frozen_of_blk hL'
    have hcl := cell_of_blk hL'
    have HL := Aside0.mk hL'
    clear hL hL' hb hxs
    gi_wp2
    have hd : DN w1.heap.size (w1.heap.size + 1) := rfl
    refine ⟨⟨(Bx.refl _ A).set (p := ⟨w1.heap.size + 1, 0, none⟩) (Or.inr hd) _, Below.heap_setCell _ _ _ _ (by simp <;> omega), Below.heap_setCell _ _ _ _ (by simp <;> omega)⟩, ?_⟩
    have e : lastF from_ (pre ++ [x]) = x := by simp [lastF]
    show _ = some (Obj.cells #[.int .i64 (lastF from_ (pre ++ [x]))] _ _)
    rw [e]
    exact blk_put HL.out 0 _ rfl
  case stop =>
    rintro c pre W _ hf
    exact hf.elim
  case done =>
    rintro W hL hb hK
    have hL' : W.heap[w1.heap.size + 1]? = some (.cells #[.int .i64 (lastF from_ (walkV ks g from_))] 3 (0, 0)) := hL
    obtain ⟨ha0, ha1⟩ := lastF_in ⟨h0, h1⟩ (walkV_in HV.out rfl from_ h0 h1)
    have HAT := Aside0.mk (rfl : lastF from_ (walkV ks g from_) = lastF from_ (walkV ks g from_))
    obtain ⟨at_, hat⟩ : ∃ a, a = lastF from_ (walkV ks g from_) := ⟨_, rfl⟩
    rw [← hat] at hL' ha0 ha1
    have HATT := Aside0.mk hat
    have hsW : w2.heap.size ≤ W.heap.size := hb.size
    have hbw : Below w.heap.size w2 W := (hb.mono (by omega)).below (fun k hk h => by unfold DN at h; omega)
    have hbz := HBZ.out.trans hbw
    have y0 := cell_of_blk hL'
    have y1 := cell_of_blk ((hb.block w.heap.size (by omega) (fun h => by unfold DN at h; omega)).trans ((HB2.out.block _ (by omega)).trans HX.out))
    have YS := (hb.block w1.heap.size (by omega) (fun h => by unfold DN at h; omega)).trans HP0.out
    have y2 : W.cell? ⟨w1.heap.size, 0, none⟩ = some (.int .i64 m) := by simp [World.cell?, YS]
    have y3 : W.cell? ⟨w1.heap.size, 1, none⟩ = some (.slice A1 l.length c1) := by simp [World.cell?, YS]
    have y4 : W.cell? ⟨w1.heap.size, 2, none⟩ = some (.slice A2 g.length c2) := by simp [World.cell?, YS]
    have y5 : W.cell? ⟨w1.heap.size, 3, none⟩ = some (.slice A4 ks.length c4) := by simp [World.cell?, YS]
    have hgl : at_ < (g.length : Int) := by rw [HV.out.1]; exact ha1
    obtain ⟨ad, A1', c1', hA2, q0, q1, hl1, hC1⟩ := at_T61 (Kd.C_below HG.out hbz) at_ ha0 hgl
    subst hA2
    obtain ⟨hs1, hs2, hs3⟩ := HV.out.2 _ (rd_T_mem (g := g) ha0 hgl)
    have hs12 := HSM.out _ (rd_T_mem (g := g) ha0 hgl)
    have HS3 := Aside0.mk hs3
    have HKW := Aside0.mk (C_blkI (W := W) HR.out (fun ad hA hn => by have h1 := HA.out ad hA hn; exact (hb.block _ (by omega) (fun h => by unfold DN at h; omega)).trans (HB2.out.block _ (by omega))))
    have HC1 := Aside0.mk hC1
    have HBZW := Aside0.mk hbz
    have HKK := Aside0.mk hK
    have HLW := Aside0.mk hL'
    have HYS := Aside0.mk YS
    clear hL hL' hb hK hat hs3 hbw hbz YS hC1 HAT
    gi_upto_region 9 with (fail)
    have hbm := below_alloc (Below.refl W.heap.size W) (.cells #[.int .i64 (rd_T61 g at_).f0, .slice A1' (rd_T61 g at_).f1.length c1'] 61)
    have hnm := blk_new W (.cells #[.int .i64 (rd_T61 g at_).f0, .slice A1' (rd_T61 g at_).f1.length c1'] 61)
    have hsm : (W.alloc (.cells #[.int .i64 (rd_T61 g at_).f0, .slice A1' (rd_T61 g at_).f1.length c1'] 61)).heap.size = W.heap.size + 1 := by simp
    generalize (W.alloc (.cells #[.int .i64 (rd_T61 g at_).f0, .slice A1' (rd_T61 g at_).f1.length c1'] 61)) = Wm at hbm hnm hsm ⊢
    have HSB := Aside0.mk (blk_below HYS.out hbm)
    have HLB := Aside0.mk (blk_below HLW.out hbm)
    have HNM := Aside0.mk hnm
    have HBM := Aside0.mk hbm
    have u2 : Wm.cell? ⟨w1.heap.size, 0, none⟩ = some (.int .i64 m) := by simp [World.cell?, HSB.out]
    have u3 : Wm.cell? ⟨w1.heap.size, 1, none⟩ = some (.slice A1 l.length c1) := by simp [World.cell?, HSB.out]
    have u4 : Wm.cell? ⟨w1.heap.size, 2, none⟩ = some (.slice (some ad) g.length c2) := by simp [World.cell?, HSB.out]
    have u5 : Wm.cell? ⟨w1.heap.size, 3, none⟩ = some (.slice A4 ks.length c4) := by simp [World.cell?, HSB.out]
    have u6 : Wm.cell? ⟨W.heap.size, 1, none⟩ = some (.slice A1' (rd_T61 g at_).f1.length c1') := by simp [World.cell?, hnm]
    have hkm := Kd.C_below HKW.out hbm
    have hSrt := sortedF (searchV m A1 l.length c1 (some ad) g.length c2 A4 ks.length c4) ks.length (orderF ks) A1' c1' (rd_T61 g at_).f1 Wm (fun W2 hW2 a b ha hb => orderC m A1 l.length c1 (some ad) g.length c2 A4 c4 ks a b W2 (Kd.C_below hkm hW2) ha hb) (Kd.C_below HC1.out hbm) hl1 HS3.out hs1 hs12
    unfold searchV at hSrt
    have HSrt := Aside0.mk ((callsIn_wide (n := 0)).2 hSrt)
    clear y0 y1 y2 y3 y4 y5 q0 q1 hbm hnm hkm hSrt
    gi_wp2
    refine ⟨trivial, rfl, HSrt.out.mono ?_⟩
    rintro e w5 ⟨g5, cap5, rfl, hrow, hb5⟩
    have hlen5 := sortF_length (orderF ks) (rd_T61 g at_).f1
    have HROW := Aside0.mk (show w5.ownsRow Wm.heap.size 3 1 (.slice (some ⟨g5, 0, none⟩) (rd_T61 g at_).f1.length cap5) (rd_T61 g at_).f1.length (nums .i64 (sortF (orderF ks) (rd_T61 g at_).f1)) by unfold Row at hrow; rw [hlen5] at hrow; exact hrow)
    have hcap5 := own_le HROW.out
    have HLB5 := Aside0.mk (blk_below HLB.out hb5)
    have HSB5 := Aside0.mk (blk_below HSB.out hb5)
    have HNM5 := Aside0.mk (blk_below HNM.out hb5)
    have HB5 := Aside0.mk hb5
    have z0 := cell_of_blk HLB5.out
    have HL5 := Aside0.mk hlen5
    have hs5 := hb5.size
    clear hrow hb5 hlen5 u2 u3 u4 u5 u6 HSrt
    by_cases hkn : k ≤ ((rd_T61 g at_).f1.length : Int)
    · obtain ⟨k1, rfl⟩ : ∃ k1 : Nat, k = (k1 : Int) + 1 := ⟨(k - 1).toNat, by omega⟩
      have hk1l : k1 < (rd_T61 g at_).f1.length := by omega
      have hK5 := (HB5.out.block w2.heap.size (by have := HBM.out.size; omega)).trans ((HBM.out.block w2.heap.size (by have := (Array.getElem?_eq_some_iff.1 HKK.out).1; omega)).trans HKK.out)
      have HK5 := Aside0.mk hK5
      clear hK5
      have hz := HBZW.out.size
      have hz2 := HBZ.out.size
      by_cases hsu : (rd_T61 g at_).f1.length = l.length
      · have hsd : (((rd_T61 g at_).f1.length : Int) == (l.length : Int)) = true := by rw [beq_int_nat]; simpa using hsu
        have HSU := Aside0.mk hsu
        clear hsu
        gi_wp2
        refine region_quiet_below (by kernel_rfl) (by kernel_rfl) (by kernel_rfl) ?_
        repeat (refine wpQuietIn_step (fun _ _ _ _ => trivial) (fun K hK => ?_); go_simp; first | (refine hK _ ?_; clear hK K))
        refine wpQuietIn_nil ?_
        intro _ hw'
        obtain ⟨⟨dq, osq⟩, hw''⟩ := hw'
        subst hw''
        have hb6 := below_regrown w5 dq osq
        generalize grow (redrawn w5 dq) osq = W6 at hb6 ⊢
        have z6 := cell_of_blk (blk_below HLB5.out hb6)
        have HB6 := Aside0.mk hb6
        have hs6 := hb6.size
        clear hb6 z0
        gi_wp2
        gi_region
        gi_wp2
        refine ⟨by simp, .inl ⟨_, _, rfl, run_takeDeferred ((HB6.out.block w2.heap.size (by omega)).trans HK5.out), ?_⟩⟩
        refine ⟨_, results_tmp4 rfl _ _ _, ?_⟩
        have hne : nearestV m ks g from_ ((k1 : Int) + 1) l.length = ((sortF (orderF ks) (rd_T61 g at_).f1).take (k1 + 1), at_, true) := by
          unfold nearestV
          simp only [← HATT.out, HL5.out]
          rw [if_pos (by omega)]
          rw [HSU.out, show ((k1 : Int) + 1).toNat = k1 + 1 by omega]
          simp
        rw [hne]
        refine ⟨.slice (some ⟨g5, 0, none⟩) (k1 + 1) cap5, by simp only [Array.getD_eq_getD_getElem?, List.getElem?_toArray, List.getElem?_cons_succ, List.getElem?_cons_zero, Option.getD_some], ?_, ?_⟩
        · have h1 := own_move HROW.out (w1 := W6.drew.putObj w2.heap.size (Obj.deferred none)) fun k hk hl => (World.putObj_heap_other (by omega)).trans (HB6.out.block k hl)
          exact own_R_take h1 (k1 + 1) (by omega) HL5.out (by omega)
        · exact (((HBZW.out.trans (HBM.out.mono (by omega))).trans (HB5.out.mono (by omega))).trans (below_drew (HB6.out.mono (by omega)))).trans (putObj_below _ _ (by omega))
      · have hsd : (((rd_T61 g at_).f1.length : Int) == (l.length : Int)) = false := by rw [beq_int_nat]; simpa using hsu
        have HSU := Aside0.mk hsu
        clear hsu
        have c3 : w5.cell? ⟨w1.heap.size, 3, none⟩ = some (.slice A4 ks.length c4) := by simp [World.cell?, HSB5.out]
        have hkm5 := Kd.C_below (Kd.C_below HKW.out HBM.out) HB5.out
        have c5 : w5.cell? ⟨W.heap.size, 0, none⟩ = some (.int .i64 (rd_T61 g at_).f0) := by simp [World.cell?, HNM5.out]
        have ho := (own_at HROW.out (k1 : Int) (by omega) (by omega)).1
        rw [Int.toNat_natCast] at ho
        have hom := HS3.out _ (sortF_mem (orderF ks) _ hs1 _ (rd_mem (l := sortF (orderF ks) (rd_T61 g at_).f1) (i := (k1 : Int)) (by omega) (by rw [HL5.out]; omega)))
        obtain ⟨ho0, ho1⟩ := hom
        obtain ⟨r, hr⟩ := HH.out at_ _ ha0 ha1 ho0 ho1
        have hcv : cover2 m (rd ks at_) (rd ks (rd (sortF (orderF ks) (rd_T61 g at_).f1) k1)) (rd_T61 g at_).f0 = decide (r ≤ (rd_T61 g at_).f0) := by unfold cover2; rw [hr]
        have HCV := Aside0.mk hcv
        obtain ⟨ak, hA4, q2⟩ := Kd.at_int hkm5 at_ ha0 ha1
        obtain ⟨ak', hA4', q3⟩ := Kd.at_int hkm5 _ ho0 ho1
        subst hA4
        cases hA4'
        have hlt1 : (k1 : Int) < (k1 : Int) + 1 := by omega
        have hkw : IntKind.i64.wrap (k1 : Int) = k1 := IntWalk.i64_in (k1 : Int) (by omega)
        have cC := fun d os => CallsIn.regrown_of (d := d) (os := os) (w := w5) ((callsIn_wide (n := 0)).2 (coversC m _ _ (rd_T61 g at_).f0 r (grow (redrawn w5 d) os) hr))
        clear hcv hr hkm5
        generalize hok_ : rd (sortF (orderF ks) (rd_T61 g at_).f1) k1 = ok at ho ho0 ho1 q3 cC HCV
        have HOK := Aside0.mk hok_
        clear hok_
        have e0 := cell_regrown z0
        have e3 := cell_regrown c3
        have e5 := cell_regrown c5
        have eo := cell_regrown ho
        have e2 := cell_regrown q2
        have eq := cell_regrown q3
        clear c3 c5 ho q2 q3
        gi_wp2
        refine region_quiet_below (by kernel_rfl) (by kernel_rfl) (by kernel_rfl) ?_
        repeat (refine wpQuietIn_step (fun _ _ _ _ => trivial) (fun K hK => ?_); go_simp; first | (refine hK _ ?_; clear hK K) | (apply Exists.intro; refine ⟨fun _ => ?_, hK _ ?_⟩; (exact ⟨rfl, cC _ _⟩); clear hK K))
        refine wpQuietIn_nil ?_
        intro _ hw'
        obtain ⟨⟨dq, osq⟩, hw''⟩ := hw'
        subst hw''
        clear e0 e3 e5 eo e2 eq cC
        have hb6 := below_regrown w5 dq osq
        generalize grow (redrawn w5 dq) osq = W6 at hb6 ⊢
        have z6 := cell_of_blk (blk_below HLB5.out hb6)
        have HB6 := Aside0.mk hb6
        have hs6 := hb6.size
        clear hb6 z0
        gi_wp2
        gi_region
        gi_wp2
        refine ⟨by simp, .inl ⟨_, _, rfl, run_takeDeferred ((HB6.out.block w2.heap.size (by omega)).trans HK5.out), ?_⟩⟩
        refine ⟨_, results_tmp4 rfl _ _ _, ?_⟩
        have hne : nearestV m ks g from_ ((k1 : Int) + 1) l.length = ((sortF (orderF ks) (rd_T61 g at_).f1).take (k1 + 1), at_, decide (r ≤ (rd_T61 g at_).f0)) := by
          unfold nearestV
          simp only [← HATT.out, HL5.out]
          rw [if_pos (by omega)]
          rw [show ((k1 : Int) + 1).toNat = k1 + 1 by omega, show ((k1 : Int) + 1 - 1) = k1 by omega, HOK.out, HCV.out]
          simp [HSU.out]
        rw [hne]
        refine ⟨.slice (some ⟨g5, 0, none⟩) (k1 + 1) cap5, by simp only [Array.getD_eq_getD_getElem?, List.getElem?_toArray, List.getElem?_cons_succ, List.getElem?_cons_zero, Option.getD_some], ?_, ?_⟩
        · have h1 := own_move HROW.out (w1 := W6.drew.putObj w2.heap.size (Obj.deferred none)) fun k hk hl => (World.putObj_heap_other (by omega)).trans (HB6.out.block k hl)
          exact own_R_take h1 (k1 + 1) (by omega) HL5.out (by omega)
        · exact (((HBZW.out.trans (HBM.out.mono (by omega))).trans (HB5.out.mono (by omega))).trans (below_drew (HB6.out.mono (by omega)))).trans (putObj_below _ _ (by omega))
    · have hK5 := (HB5.out.block w2.heap.size (by have := HBM.out.size; omega)).trans ((HBM.out.block w2.heap.size (by have := (Array.getElem?_eq_some_iff.1 HKK.out).1; omega)).trans HKK.out)
      have HK5 := Aside0.mk hK5
      clear hK5
      gi_wp2
      gi_region
      gi_wp2
      refine ⟨by simp, .inl ⟨_, _, rfl, run_takeDeferred HK5.out, ?_⟩⟩
      refine ⟨_, results_tmp4 rfl _ _ _, ?_⟩
      have hne : nearestV m ks g from_ k l.length = (sortF (orderF ks) (rd_T61 g at_).f1, at_, decide ((rd_T61 g at_).f1.length = l.length)) := by
        unfold nearestV
        simp only [← HATT.out, HL5.out]
        rw [if_neg (by omega)]
      rw [hne]
      refine ⟨.slice (some ⟨g5, 0, none⟩) (rd_T61 g at_).f1.length cap5, by simp only [Array.getD_eq_getD_getElem?, List.getElem?_toArray, List.getElem?_cons_succ, List.getElem?_cons_zero, Option.getD_some, beq_int_nat], ?_, ?_⟩
      · have hz := HBZW.out.size
        have hz2 := HBZ.out.size
        have h1 := own_lower (own_move HROW.out (w1 := w5.drew.putObj w2.heap.size (Obj.deferred none)) fun k hk _ => World.putObj_heap_other (by omega)) (show w.heap.size ≤ Wm.heap.size by omega)
        rw [← HL5.out] at h1 ⊢
        exact Kd.R_of_own (enc := Value.int .i64) (h1 := fun _ => rfl) h1 (fun _ _ => trivial)
      · have hz2 := HBZ.out.size
        have hz := HBZW.out.size
        exact ((HBZW.out.trans (HBM.out.mono (by omega))).trans (below_drew (HB5.out.mono (by omega)))).trans (putObj_below _ _ (by omega))
end Go.Proofs.YthbkomkgciemiaaGreat.PKF
namespace Go.Proofs.YthbkomkgciemiaaGreat.RF
open Go Go.RowKit Go.Sort Go.Proofs
variable {α : Type} [Inhabited α] {enc : α → Value} {w : World}
theorem heap_sorted_of {g n : Nat} {os : Array Obj} {cur : Array Value} {e : TypeId} {fr : Nat × Nat} (d : Array α) (hb : w.heap[g]? = some (.cells cur e fr)) :
    (grow (putRow enc (Sort.ahead w n) g 0 d) os).heap[g]? = some (.cells (putCells enc 0 d cur) e fr) := by
  have hg : g < w.heap.size := (Array.getElem?_eq_some_iff.1 hb).1
  rw [heap_grow_old _ _ (by simpa using hg)]
  simp [putRow, mapBlock, Sort.ahead, Array.getElem?_modify, hb, onCells]
theorem grownBy_sorted_of {g n : Nat} {os : Array Obj} (d : Array α) : w.grownBy (grow (putRow enc (Sort.ahead w n) g 0 d) os) (some g) := by
  refine ⟨rfl, rfl, rfl, by simp, fun k hk hne => ?_⟩
  rw [heap_grow_old _ _ (by simpa using hk)]
  have : g ≠ k := fun e => hne (by rw [e])
  simp [putRow, mapBlock, Sort.ahead, Array.getElem?_modify, this]
theorem take_putCells_of (cur : Array Value) (ts : List α) (h : ts.length ≤ cur.size) : (putCells enc 0 ts.toArray cur).toList.take ts.length = ts.map enc := by
  apply List.ext_getElem?
  intro j
  by_cases hj : j < ts.length
  · rw [List.getElem?_take_of_lt hj, Array.getElem?_toList]
    simp [putCells, hj, show j < cur.size by omega]
  · rw [List.getElem?_take_eq_none (by omega), List.getElem?_eq_none (by simp; omega)]
theorem holds_of_block_of {g : Nat} {cur : Array Value} {e : TypeId} {ss : List α} (hb : w.heap[g]? = some (.cells cur e (0, 0))) (ht : cur.toList.take ss.length = ss.map enc) : Holds enc w g 0 ss.toArray := by
  intro j hj
  have hj' : j < ss.length := by simpa using hj
  refine ⟨?_, by simp [World.frozen?, hb]⟩
  have h1 : (cur.toList.take ss.length)[j]? = (ss.map enc)[j]? := by rw [ht]
  rw [List.getElem?_take_of_lt hj'] at h1
  simp only [World.cell?, hb, Nat.zero_add]
  simp only [Option.isSome_none, Bool.false_eq_true, if_false]
  rw [← Array.getElem?_toList, h1]
  simp [hj']
theorem own_sort {base : Nat} {e : TypeId} {v : Value} {ss : List α} (h : w.ownsRow base e 1 v ss.length (ss.map enc)) (hp : 0 < ss.length) :
    ∃ g cap, v = .slice (some ⟨g, 0, none⟩) ss.length cap ∧ base ≤ g ∧ g < w.heap.size ∧ Holds enc w g 0 ss.toArray ∧ v.ownBlock = some g ∧
      ∀ (ts : List α) (n : Nat) (os : Array Obj), ts.length = ss.length → (grow (putRow enc (Sort.ahead w n) g 0 ts.toArray) os).ownsRow base e 1 v ts.length (ts.map enc) := by
  rcases h.2 with ⟨_, h0⟩ | ⟨g, cap, cur, rfl, hbase, hb, h1, h2, h3, h4⟩
  · omega
  · refine ⟨g, cap, rfl, hbase, (Array.getElem?_eq_some_iff.1 hb).1, holds_of_block_of hb (by simpa using h4), rfl, fun ts n os hl => ?_⟩
    rw [← hl] at h1 ⊢
    exact ⟨by simp, .inr ⟨g, cap, _, rfl, hbase, heap_sorted_of _ hb, h1, h2, by simp [putCells, h3], by rw [Nat.mul_one]; exact take_putCells_of cur ts (by omega)⟩⟩
end Go.Proofs.YthbkomkgciemiaaGreat.RF
namespace Go.Proofs.YthbkomkgciemiaaGreat.PKF
open Go.Proofs.YthbkomkgciemiaaGreat.RF
open Go.RowKit Go.Proofs.YthbkomkgciemiaaGreatW.PrintWords Go.Proofs.YthbkomkgciemiaaGreatW.PrintLast Go.Proofs.YthbkomkgciemiaaGreatW.PrintMore
attribute [local go_sem] max2_int min2_int max_two min_two max_three min_three max_four min_four
set_option linter.unusedVariables false
set_option linter.unusedSimpArgs false
def sortI (xs : List Int) : List Int := xs.mergeSort fun x y => decide (x ≤ y)
theorem sortI_length (xs : List Int) : (sortI xs).length = xs.length := by simp [sortI]
set_option maxHeartbeats 400000 in
set_option maxRecDepth 100000 in
theorem sortedC (gf : Nat) (lb : Array Value) (eg : ∀ args w, (callFunc gf args).run Tryz.prog w = .ok (.enter gf args) w) (h : Nat) (xs : List Int) (w0 w : World) (hseq : SeqC Tryz.prog gf lb h w0.heap.size encI xs w0) (hb : Below w0.heap.size w0 w) (hh : h ≤ w0.heap.size) (hx : xs.length < 17592186044416) (hp : 0 < xs.length) :
    Calls Tryz.prog 44 #[.func (.func gf) #[] lb] w fun e w' => ∃ v, e = .returned v ∧ w'.ownsRow w.heap.size 3 1 v (sortI xs).length ((sortI xs).map (Value.int .i64)) ∧ Below h w w' := by
  have HC := Aside0.mk (collectC gf lb eg h xs w0 w hseq hb hh hx)
  have hsz := hb.size
  clear hseq hb eg
  go_enter Tryz.func44, Tryz.ntmps44
  go_wp2_with fail
  refine HC.out.mono ?_
  rintro e w1 ⟨v, rfl, ho, hb⟩
  obtain ⟨g, cap, rfl, hg1, hg2, hH, _, hO⟩ := own_sort ho hp
  have hS := Go.Proofs.Tryz.slices_Sort_int g 0 cap xs w1 hH hg2 (by omega)
  have HS := Aside0.mk hS
  have HB := Aside0.mk hb
  have HO := Aside0.mk hO
  clear hb hO hH ho hS
  go_wp2_with fail
  refine HS.out.mono ?_
  rintro e w2 ⟨rfl, n, os, hw2⟩
  have HO2 := Aside0.mk (show w2.ownsRow w.heap.size 3 1 (.slice (some ⟨g, 0, none⟩) xs.length cap) (sortI xs).length ((sortI xs).map (Value.int .i64)) by rw [hw2]; exact HO.out (sortI xs) n os (sortI_length _))
  have HB2 := Aside0.mk (show Below h w w2 by rw [hw2]; exact HB.out.grown (row := some g) (grownBy_sorted_of (enc := Value.int .i64) (n := n) (os := os) (sortI xs).toArray) (by have := HB.out.size; omega) (fun k e => by cases e; omega))
  clear HO HB HS hw2
  go_wp2
  go_ret
  exact ⟨_, rfl, HO2.out, HB2.out⟩
def hoodV (m : Int) (l : List (List Int)) (want : Int) (v : List Int) : S61 :=
  ⟨rd (sortI (keysV m l v)) (mn want l.length - 1), aroundV (keysV m l v) (rd (sortI (keysV m l v)) (mn want l.length - 1))⟩
def hoodsV (m : Int) (l : List (List Int)) (want : Int) (n : Nat) : List S61 := (l.take n).map (hoodV m l want)
theorem hoodsV_succ (m : Int) (l : List (List Int)) (want : Int) (n : Nat) (h : n < l.length) : hoodsV m l want (n + 1) = hoodsV m l want n ++ [hoodV m l want (rdL l n)] := by
  unfold hoodsV
  rw [List.take_succ_eq_append_getElem h, List.map_append]; simp [rdL, h]
theorem hoodsV_length (m : Int) (l : List (List Int)) (want : Int) (n : Nat) : (hoodsV m l want n).length ≤ n := by simp [hoodsV]; omega
def graph_Build.f (a0 : Int) (l1 : List (List Int)) (a2 : Int) : Option ((List S61) × Int) :=
  some (if rightF a0 l1 = true ∧ 1 ≤ a2 ∧ a2 ≤ 4096 then (hoodsV a0 l1 a2 l1.length, 0) else ([], 1))
set_option maxHeartbeats 1000000 in
set_option maxRecDepth 100000 in
theorem buildNot (m : Int) (A : Option Addr) (c : Nat) (l : List (List Int)) (want : Int) (w : World) (hr : Kd.C (Kd.slice 3 (Kd.int .i64)) w A l.length l) (hc : l.length ≤ c) (hn : ¬ (rightF m l = true ∧ 1 ≤ want ∧ want ≤ 4096)) :
    Calls Tryz.prog 19 #[.int .i64 m, .slice A l.length c, .int .i64 want] w fun e w' => e = .returned (.tuple #[.agg #[.slice none 0 0], .int .i64 1]) ∧ Below w.heap.size w w' := by
  have hu := Tryz.underlying63
  have hu2 := Tryz.underlying25
  have HC := Aside0.mk (fun w (hr : Kd.C (Kd.slice 3 (Kd.int .i64)) w A l.length l) => graph_space_isRight.calls m A c l _ w hr hc rfl)
  have HR := Aside0.mk hr
  clear hr hc
  cases h1 : rightF m l with
  | false =>
    rw [h1] at HC
    clear hn h1
    go_enter Tryz.func19, Tryz.ntmps19
    go_wp2_with fail
    refine (HC.out _ (Kd.C_alloc (Kd.C_alloc HR.out _) _)).mono ?_
    rintro e w1 ⟨rfl, hb⟩
    have hB0 := blk_below (blk_alloc (blk_new w (.cells #[.slice none 0 0] 25)) (.cells #[.int .i64 m, .slice A l.length c] 63)) hb
    have hc0 := cell_of_blk hB0
    have hf0 := frozen_of_blk hB0
    have HB0 := Aside0.mk hB0
    have HB := Aside0.mk (below_step (below_alloc (below_alloc (Below.refl _ w) _) _) hb)
    clear hB0 hb HC
    go_wp2
    refine bodyPost_ret (results_ct rfl _ _ w.heap.size 25 #[.slice none 0 0] (0, 0) _ rfl (blk_put (cs := #[.slice none 0 0]) HB0.out 0 _ rfl) Tryz.underlying25 rfl (by kernel_rfl)) rfl ?_
    exact ⟨rfl, HB.out.setCell (p := ⟨w.heap.size, 0, none⟩) (Nat.le_refl _) _⟩
  | true =>
    rw [h1] at HC
    have hn2 : want < 1 ∨ 4096 < want := Decidable.byContradiction fun h => hn ⟨by first | rfl | exact h1, by omega, by omega⟩
    clear hn h1
    by_cases h2 : want < 1
    · clear hn2
      go_enter Tryz.func19, Tryz.ntmps19
      go_wp2_with fail
      refine (HC.out _ (Kd.C_alloc (Kd.C_alloc HR.out _) _)).mono ?_
      rintro e w1 ⟨rfl, hb⟩
      have hB0 := blk_below (blk_alloc (blk_new w (.cells #[.slice none 0 0] 25)) (.cells #[.int .i64 m, .slice A l.length c] 63)) hb
      have hc0 := cell_of_blk hB0
      have hf0 := frozen_of_blk hB0
      have HB0 := Aside0.mk hB0
      have HB := Aside0.mk (below_step (below_alloc (below_alloc (Below.refl _ w) _) _) hb)
      clear hB0 hb HC
      go_wp2
      refine bodyPost_ret (results_ct rfl _ _ w.heap.size 25 #[.slice none 0 0] (0, 0) _ rfl (blk_put (cs := #[.slice none 0 0]) HB0.out 0 _ rfl) Tryz.underlying25 rfl (by kernel_rfl)) rfl ?_
      exact ⟨rfl, HB.out.setCell (p := ⟨w.heap.size, 0, none⟩) (Nat.le_refl _) _⟩
    · have h3 : 4096 < want := by omega
      clear hn2
      go_enter Tryz.func19, Tryz.ntmps19
      go_wp2_with fail
      refine (HC.out _ (Kd.C_alloc (Kd.C_alloc HR.out _) _)).mono ?_
      rintro e w1 ⟨rfl, hb⟩
      have hB0 := blk_below (blk_alloc (blk_new w (.cells #[.slice none 0 0] 25)) (.cells #[.int .i64 m, .slice A l.length c] 63)) hb
      have hc0 := cell_of_blk hB0
      have hf0 := frozen_of_blk hB0
      have HB0 := Aside0.mk hB0
      have HB := Aside0.mk (below_step (below_alloc (below_alloc (Below.refl _ w) _) _) hb)
      clear hB0 hb HC
      go_wp2
      refine bodyPost_ret (results_ct rfl _ _ w.heap.size 25 #[.slice none 0 0] (0, 0) _ rfl (blk_put (cs := #[.slice none 0 0]) HB0.out 0 _ rfl) Tryz.underlying25 rfl (by kernel_rfl)) rfl ?_
      exact ⟨rfl, HB.out.setCell (p := ⟨w.heap.size, 0, none⟩) (Nat.le_refl _) _⟩
theorem infoHd : (Tryz.prog.info? 61).map (fun i => (i.zero, i.size, i.bytes)) = some (some (.agg #[(.int .i64 0), (.slice none 0 0)]), 2, 32) := by kernel_rfl
theorem blk_grown {w w1 : World} {row : Option Nat} {g : Nat} {o : Obj} (h : w.heap[g]? = some o) (hg : w.grownBy w1 row) (hne : some g ≠ row) : w1.heap[g]? = some o := (hg.block g (blk_lt h) hne).trans h
theorem own_R {w : World} {base : Nat} {v : Value} {xs : List Int} (h : w.ownsRow base 3 1 v xs.length (xs.map (Value.int .i64))) : Kd.R (Kd.int .i64) 3 w base (fun _ => True) v xs :=
  Kd.R_of_own (enc := Value.int .i64) h (fun _ _ => trivial)
def BuildRel (m want : Int) (A : Option Addr) (c : Nat) (l : List (List Int)) (Br Bs Bg : Nat) (w : World) (k : Nat) (wr : World) : Prop :=
  wr.heap[Br]? = some (.cells #[.slice none 0 0] 25 (0, 0)) ∧ wr.heap[Bs]? = some (.cells #[.int .i64 m, .slice A l.length c] 63 (0, 0)) ∧
  (∃ hv, wr.heap[Bg]? = some (.cells #[hv] 25 (0, 0)) ∧ Kd.S k61 61 wr w.heap.size (fun _ => True) hv (hoodsV m l want k)) ∧ Below w.heap.size w wr
set_option maxHeartbeats 2000000 in
set_option maxRecDepth 100000 in
theorem buildYes (m : Int) (A : Option Addr) (c : Nat) (l : List (List Int)) (want : Int) (w : World) (hr : Kd.C (Kd.slice 3 (Kd.int .i64)) w A l.length l) (hc : l.length ≤ c) (hright : rightF m l = true) (hw1 : 1 ≤ want) (hw2 : want ≤ 4096) :
    Calls Tryz.prog 19 #[.int .i64 m, .slice A l.length c, .int .i64 want] w fun e w' => ∃ v0_ : Value, e = .returned (.tuple #[.agg #[v0_], .int .i64 0]) ∧ Kd.S k61 61 w' w.heap.size (fun _ => True) v0_ (hoodsV m l want l.length) ∧ Below w.heap.size w w' := by
  have hu := Tryz.underlying63
  have hu2 := Tryz.underlying25
  have hu3 := Tryz.underlying61
  obtain ⟨hm, ⟨hl1, hl2⟩, hal⟩ := rightF_iff.1 hright
  have HC := Aside0.mk (fun w (hr : Kd.C (Kd.slice 3 (Kd.int .i64)) w A l.length l) => graph_space_isRight.calls m A c l _ w hr hc rfl)
  rw [hright] at HC
  have HR := Aside0.mk hr
  have HAL := Aside0.mk hal
  have HM := Aside0.mk hm
  clear hr hright hal hm
  go_enter Tryz.func19, Tryz.ntmps19
  go_wp2_with fail
  refine (HC.out _ (Kd.C_alloc (Kd.C_alloc HR.out _) _)).mono ?_
  rintro e w1 ⟨rfl, hb⟩
  have hB0 := blk_below (blk_alloc (blk_new w (.cells #[.slice none 0 0] 25)) (.cells #[.int .i64 m, .slice A l.length c] 63)) hb
  have hB1 := blk_below (blk_new (w.alloc (.cells #[.slice none 0 0] 25)) (.cells #[.int .i64 m, .slice A l.length c] 63)) hb
  rw [World.size_alloc] at hB1
  have HB0 := Aside0.mk hB0
  have HB1 := Aside0.mk hB1
  have HB := Aside0.mk (below_step (below_alloc (below_alloc (Below.refl _ w) _) _) hb)
  have hsz1 : w.heap.size + 2 ≤ w1.heap.size := by have := hb.size; simp at this; omega
  clear hB0 hB1 hb HC
  go_wp2
  go_loopw [11, 12, 13, 31] (fun _ _ _ i wr => ∃ k : Nat, k ≤ l.length ∧ i = .int .i64 k ∧ BuildRel m want A c l w.heap.size (w.heap.size + 1) w1.heap.size w k wr) (fun _ _ _ i _ => l.length - (intOf i).toNat)
  case atStart =>
    refine ⟨0, Nat.zero_le _, rfl, blk_alloc HB0.out _, blk_alloc HB1.out _, ⟨_, blk_new _ _, ?_⟩, below_alloc HB.out _⟩
    exact Kd.S_nil _ _ _ _ _
  case round =>
    obtain ⟨k, hk, rfl, hR0, hR1, ⟨hv, hR2, hR3⟩, hR4⟩ := hrel
    have H0 := Aside0.mk hR0
    have H1 := Aside0.mk hR1
    have H2 := Aside0.mk hR2
    have H3 := Aside0.mk hR3
    have H4 := Aside0.mk hR4
    by_cases hlt : k < l.length
    · obtain ⟨ad, A0, c0, rfl, hx, hlc, hi⟩ := at_rows (Kd.C_below HR.out hR4) k (by omega) (by omega)
      simp only [Int.toNat_natCast] at hx
      have b0 : wr.cell? ⟨w.heap.size + 1, 0, none⟩ = some (.int .i64 m) := by simp [World.cell?, hR1]
      have b1 : wr.cell? ⟨w.heap.size + 1, 1, none⟩ = some (.slice (some ad) l.length c) := by simp [World.cell?, hR1]
      have hK := graph_space_keys.calls (l.length + 41) m (some ad) c l A0 c0 (rdL l k) _ wr (Kd.C_below HR.out hR4) hc hi hlc (keys_f m HM.out l (rdL l k) (fun x hx => alike_trans (HAL.out x hx) (HAL.out _ (rdL_mem (by omega) (by omega)))) hl2 _ (Nat.le_refl _))
      have HK := Aside0.mk hK
      have HI := Aside0.mk hi
      have HIC := Aside0.mk hlc
      clear hR0 hR1 hR2 hR3 hR4 hK hi hlc
      go_wp2_with fail
      refine HK.out.mono ?_
      rintro e w2 ⟨v0, rfl, hk0, hb2⟩
      obtain ⟨Ak, ck, rfl⟩ := Kd.R_slice hk0
      have hkl := keysV_length m l (rdL l k)
      have hkc := (Kd.R_reads' hk0).2.2
      have HK0 := Aside0.mk hk0
      have HKC := Aside0.mk hkc
      have HB2 := Aside0.mk hb2
      have hsz2 := hb2.size
      clear hk0 hb2 HK
      generalize hky : keysV m l (rdL l k) = ky at HK0 HKC hkl ⊢
      have HKY := Aside0.mk hky
      have hkl1 : l.length ≤ ky.length := by omega
      have hkl2 : ky.length ≤ l.length := by omega
      clear hky hkl
      go_wp2_with fail
      refine (valuesC Ak ky.length ck w2).mono ?_
      rintro e w3 ⟨rfl, rfl⟩
      have hseq := values_seq Ak ck ky (w2.alloc (.cells #[.slice Ak ky.length ck] 26)) w2.heap.size (blk_new _ _) (Kd.C_alloc HKC.out _)
      have hS := sortedC _ _ (enters_of Tryz.func71 (by kernel_rfl) rfl) _ ky _ _ hseq (Below.refl _ _) (Nat.le_refl _) (by omega) (by omega)
      have HS := Aside0.mk hS
      clear hseq hS hkc
      go_wp2_with fail
      refine HS.out.mono ?_
      rintro e w4 ⟨vs, rfl, ho, hb4⟩
      have hRs := own_R ho
      obtain ⟨As, cs, rfl⟩ := Kd.R_slice hRs
      have hCs := (Kd.R_reads' hRs).2.2
      have hsl1 : ky.length ≤ (sortI ky).length := by rw [sortI_length]; omega
      have hsl2 : (sortI ky).length ≤ ky.length := by rw [sortI_length]; omega
      have HS4 := Aside0.mk hRs
      have HB4 := Aside0.mk (below_step (below_alloc (Below.refl _ w2) _) hb4)
      clear HS ho hb4 hRs
      obtain ⟨ads, rfl, hcs⟩ := Kd.at_int hCs (mn want l.length - 1) (by unfold mn; split <;> omega) (by unfold mn; split <;> omega)
      clear hCs
      generalize hrad : rd (sortI ky) (mn want l.length - 1) = rad at hcs
      have hc1 : (l.length : Int) < want → w4.cell? (ads.add (l.length - 1)) = some (.int .i64 rad) := fun h => by
        have e : (mn want l.length - 1).toNat = l.length - 1 := by unfold mn; rw [if_pos h]; omega
        rwa [e] at hcs
      have hc2 : ¬ (l.length : Int) < want → w4.cell? (ads.add (want.toNat - 1)) = some (.int .i64 rad) := fun h => by
        have e : (mn want l.length - 1).toNat = want.toNat - 1 := by unfold mn; rw [if_neg h]; omega
        rwa [e] at hcs
      have HRAD := Aside0.mk hrad
      have HA := Aside0.mk (fun W (hW : Below w2.heap.size w2 W) => graph_around.calls (ky.length + 1) Ak ck ky rad _ W (Kd.C_below HKC.out hW) (Kd.R_reads' HK0.out).2.1 (around_f ky rad (by omega) _ (Nat.le_refl _)))
      generalize har : aroundV ky rad = ar at HA
      have HAR := Aside0.mk har
      have hh4 : Below w.heap.size w w4 := H4.out.trans ((HB2.out.mono H4.out.size).trans (HB4.out.mono (Nat.le_trans H4.out.size hsz2)))
      have hb42 : Below wr.heap.size wr w4 := HB2.out.trans (HB4.out.mono hsz2)
      have K2 := Aside0.mk (blk_below H2.out hb42)
      have K0 := Aside0.mk (blk_below H0.out hb42)
      have K1 := Aside0.mk (blk_below H1.out hb42)
      have K3 := Aside0.mk (Kd.S_below H3.out hb42)
      have K4 := Aside0.mk hh4
      have hcg : w4.cell? ⟨w1.heap.size, 0, none⟩ = some hv := cell_of_blk K2.out
      clear hb42 hh4 har
      clear hrad hcs
      by_cases hwl : (l.length : Int) < want
      all_goals
        (first | (have hcq := hc1 hwl) | (have hcq := hc2 hwl; have hwl' : want ≤ (l.length : Int) := (by omega); have hw1' : (want - 1).toNat < l.length := (by omega)))
        clear hc1 hc2
        go_wp2_with fail
        go_region_law
          (first
            | (go_simp; go_at_call 46; refine (HA.out _ (below_drew HB4.out)).mono ?_; rintro e w5 ⟨v5, rfl, h5, hb5⟩; obtain ⟨A5, c5, rfl⟩ := Kd.R_slice h5; have hcg5 := cell_of_blk (blk_below (blk_drew K2.out) hb5); have hz5 : w1.heap.size < w5.heap.size := blk_lt (blk_below (blk_drew K2.out) hb5); have M5 := Aside0.mk h5; have N5 := Aside0.mk hb5; have L3 := Aside0.mk (Kd.S_below (Kd.S_drew K3.out) hb5); have LB := Aside0.mk (Kd.S_mono (ok' := fun k => True ∧ ¬ (w4.drew.heap.size ≤ k ∧ some k ≠ hv.ownBlock)) (Kd.S_below (Kd.S_bound (Kd.S_drew K3.out)) hb5) (fun k hk => ⟨trivial, fun h2 => absurd hk.2.2.1 (Nat.not_lt.2 h2.1)⟩)); have L4 := Aside0.mk (below_step (below_drew K4.out) hb5); clear h5 hb5)
            | (refine Kd.S_append_step k61 (w0 := w) (W := w5) w.heap.size (by rfl) _ _ 23 61 (.agg #[(.int .i64 0), (.slice none 0 0)]) 32 (by rfl) Tryz.underlying23 infoHd rfl (by decide) (by omega) hv (hoodsV m l want k) (⟨rad, ar⟩ : S61) [.int .i64 rad, .slice A5 ar.length c5] (fun _ => True) (fun k_ => w4.drew.heap.size ≤ k_ ∧ some k_ ≠ hv.ownBlock) (by rfl) (by rfl) ?aP (fun _ h => ⟨trivial, h.2⟩) (fun _ _ => trivial) LB.out L4.out (L4.out.size) ?aL ?_; (case aP => exact k61_mkM w5 _ _ (⟨rad, ar⟩ : S61) (Kd.R_apart' (Kd.R_lower (Kd.R_mono (Kd.R_bound M5.out) (fun k hk => hk.2.1)) (below_drew K4.out).size) (Kd.S_typed L3.out) (by decide))); (case aL => have := hoodsV_length m l want k; omega); intro v8 w8 h8 hb8 hg8 hat8; obtain ⟨A8, c8, rfl⟩ := Kd.S_slice h8; have P2 := Aside0.mk (blk_grown (blk_below (blk_drew K2.out) N5.out) hg8 (Kd.S_ne L3.out (blk_below (blk_drew K2.out) N5.out) (by decide))); have P0 := Aside0.mk (blk_grown (blk_below (blk_drew K0.out) N5.out) hg8 (Kd.S_ne L3.out (blk_below (blk_drew K0.out) N5.out) (by decide))); have P1 := Aside0.mk (blk_grown (blk_below (blk_drew K1.out) N5.out) hg8 (Kd.S_ne L3.out (blk_below (blk_drew K1.out) N5.out) (by decide))); have hcg8 := cell_of_blk P2.out; have hfg8 := frozen_of_blk P2.out; have P3 := Aside0.mk h8; have P4 := Aside0.mk hb8; clear h8 hb8 hg8 hat8)
            | fail)
        all_goals go_wp2
        all_goals
          have hfin : BuildRel m want (some ad) c l w.heap.size (w.heap.size + 1) w1.heap.size w (k + 1) (w8.setCell ⟨w1.heap.size, 0, none⟩ (.slice A8 ((hoodsV m l want k).length + 1) c8)) := by
            have e : hoodsV m l want (k + 1) = hoodsV m l want k ++ [⟨rad, ar⟩] := by
              rw [hoodsV_succ m l want k hlt]
              simp only [hoodV]
              rw [HKY.out, HRAD.out, HAR.out]
            refine ⟨(Below.heap_setCell _ _ _ _ (by simp; omega)).trans P0.out, (Below.heap_setCell _ _ _ _ (by simp; omega)).trans P1.out, ⟨_, blk_put P2.out 0 _ rfl, ?_⟩, P4.out.setCell (p := ⟨w1.heap.size, 0, none⟩) (by simp; omega) _⟩
            rw [e]
            have := Kd.S_set P3.out P2.out (by decide) 0 (.slice A8 ((hoodsV m l want k).length + 1) c8)
            simpa using this
          have HFIN := Aside0.mk hfin
          clear hfin
          go_roundw
          all_goals first
            | exact ⟨k + 1, by omega, by go_num, HFIN.out⟩
            | (simp [intOf]; omega)
            | exact ⟨⟨k + 1, by omega, by go_num, HFIN.out⟩, by simp [intOf]; omega⟩
    · have e : k = l.length := by omega
      subst e
      obtain ⟨Ah, ch, rfl⟩ := Kd.S_slice hR3
      have c2 := cell_of_blk hR2
      have c0 := cell_of_blk hR0
      have f0 := frozen_of_blk hR0
      clear hR0 hR1 hR2 hR3 hR4
      go_wp2
      refine bodyPost_ret (results_ct rfl _ _ w.heap.size 25 _ (0, 0) _ rfl (blk_put (cs := #[.slice none 0 0]) H0.out 0 _ rfl) Tryz.underlying25 rfl (by kernel_rfl)) rfl ?_
      exact ⟨_, rfl, Kd.S_set H3.out H0.out (by decide) 0 _, H4.out.setCell (p := ⟨w.heap.size, 0, none⟩) (Nat.le_refl _) _⟩
theorem graph_Build.calls (a0 : Int) (A1 : Option Addr) (c1 : Nat) (l1 : List (List Int)) (a2 : Int) (r1 : List S61) (r2 : Int) (w : World) (hr1 : Kd.C (Kd.slice 3 (Kd.int .i64)) w A1 l1.length l1) (hc1 : l1.length ≤ c1) (h : graph_Build.f a0 l1 a2 = some (r1, r2)) :
    Calls Tryz.prog 19 #[.int .i64 a0, .slice A1 l1.length c1, .int .i64 a2] w fun e w' => ∃ v0_ : Value, e = .returned (.tuple #[.agg #[v0_], .int .i64 r2]) ∧ Kd.S k61 61 w' w.heap.size (fun _ => True) v0_ r1 ∧ Below w.heap.size w w' := by
  unfold graph_Build.f at h
  split at h
  · rename_i hh
    cases h
    exact buildYes a0 A1 c1 l1 a2 w hr1 hc1 hh.1 hh.2.1 hh.2.2
  · rename_i hh
    cases h
    refine (buildNot a0 A1 c1 l1 a2 w hr1 hc1 hh).mono ?_
    rintro e w' ⟨rfl, hb⟩
    exact ⟨_, rfl, Kd.S_nil _ _ _ _ _, hb⟩
theorem flat_at {β : Type} {s : Nat} : ∀ {cs : List (List β)} (_ : ∀ c ∈ cs, c.length = s) {j i : Nat} {c : List β} {u : β}, cs[j]? = some c → c[i]? = some u → cs.flatten[j * s + i]? = some u
  | [], _, j, i, c, u, h1, _ => by simp at h1
  | c0 :: r, h, 0, i, c, u, h1, h2 => by
    simp at h1; subst h1
    rw [List.flatten_cons, List.getElem?_append_left (by rw [Nat.zero_mul, Nat.zero_add]; exact (List.getElem?_eq_some_iff.1 h2).1)]
    simpa using h2
  | c0 :: r, h, j + 1, i, c, u, h1, h2 => by
    have hl := h c0 (by simp)
    simp at h1
    rw [List.flatten_cons, List.getElem?_append_right (by rw [hl, Nat.succ_mul]; omega), hl, show (j + 1) * s + i - s = j * s + i by rw [Nat.succ_mul]; omega]
    exact flat_at (fun c hc => h c (by simp [hc])) h1 h2
theorem C_blk {α : Type} (d : Kd α) (W : World) (b : Nat) (cs : List (List Value)) (xs : List α) (t : TypeId) (fr : Nat × Nat) (hb : W.heap[b]? = some (.cells cs.flatten.toArray t fr)) (hl : cs.length = xs.length) (hK : ∀ (j : Nat) (x : α) (c : List Value), xs[j]? = some x → cs[j]? = some c → d.K W x c) (hm : xs.length ≤ 9223372036854775807) : d.C W (some ⟨b, 0, none⟩) xs.length xs := by
  refine ⟨rfl, hm, fun _ => ⟨_, rfl, fun j p hj => ?_⟩⟩
  have hjl := (List.getElem?_eq_some_iff.1 hj).1
  have hc : cs[j]? = some cs[j] := by simp
  have hk := hK j p _ hj hc
  refine ⟨cs[j], d.K_len hk, hk, fun i u hu => ?_⟩
  have hall : ∀ c ∈ cs, c.length = d.sz := by
    intro c hc
    obtain ⟨q, hq, rfl⟩ := List.mem_iff_getElem.1 hc
    exact d.K_len (hK q (xs[q]'(by omega)) _ (by simp) (by simp))
  have := flat_at hall hc hu
  have e : (⟨b, 0, none⟩ : Addr).add (j * d.sz + i) = ⟨b, j * d.sz + i, none⟩ := add_plain _ _
  rw [e]
  simp only [World.cell?, hb, Option.isSome_none, Bool.false_eq_true, if_false]
  simpa using this
theorem flat_ints : ∀ xs : List Int, (xs.map fun x => [Value.int .i64 x]).flatten = xs.map (Value.int .i64)
  | [] => rfl
  | x :: r => by rw [List.map_cons, List.flatten_cons, flat_ints r]; rfl
theorem C_ints (W : World) (b : Nat) (xs : List Int) (t : TypeId) (fr : Nat × Nat) (hb : W.heap[b]? = some (.cells (xs.map (Value.int .i64)).toArray t fr)) (hm : xs.length ≤ 9223372036854775807) : Kd.C (Kd.int .i64) W (some ⟨b, 0, none⟩) xs.length xs := by
  refine C_blk _ W b (xs.map fun x => [.int .i64 x]) xs t fr ?_ (by simp) (fun j x c h1 h2 => ?_) hm
  · rw [hb, flat_ints]
  · rw [List.getElem?_map, h1] at h2; simp at h2; subst h2; rfl
def l5 : List (List Int) := [[0], [3], [4], [9], [10]]
def g5 : List Hd := [⟨3, [0, 1]⟩, ⟨1, [1, 2]⟩, ⟨1, [1, 2]⟩, ⟨1, [3, 4]⟩, ⟨1, [3, 4]⟩]
theorem right5 : rightF 1 l5 = true := by kernel_rfl
theorem validf5 : graph_Valid.f 60 5 g5 = some true := by kernel_rfl
theorem valid_of_f {k : Nat} {n : Int} {g : List Hd} (hs : shortG g) (h : graph_Valid.f k n g = some true) : ValidG n g := by
  obtain ⟨k', r, h1, h2⟩ := valid_ex n g hs
  refine h2.1 ?_
  have e1 := up_le (graph_Valid.mono n g) h (Nat.le_add_right k k')
  have e2 := up_le (graph_Valid.mono n g) h1 (Nat.le_add_left k' k)
  rw [e1] at e2
  exact (Option.some.inj e2).symm
theorem short5 : shortG g5 := by
  intro h hh
  simp [g5] at hh
  rcases hh with rfl | rfl | rfl | rfl <;> simp
theorem beg5 (x from_ : Int) (hx : alikeF [0] [x] = true) (h0 : 0 ≤ from_) (h1 : from_ < 5) : BegOk 1 l5 g5 [x] from_ where
  right := right5
  valid := valid_at short5 (valid_of_f short5 validf5)
  good := good_of_valid (n := 5) (valid_of_f short5 validf5)
  one := by decide
  few := by decide
  alike := hx
  h0 := h0
  h1 := h1
theorem kth_sorted (x : Int) : ∀ (s : List Int) (j : Nat), s.Pairwise (· ≤ ·) → (s.filter fun y => decide (y < x)).length ≤ j → j < (s.filter fun y => decide (y ≤ x)).length → rd s j = x
  | [], j, _, _, h => by simp at h
  | a :: r, j, hs, h1, h2 => by
    obtain ⟨ha, hr⟩ := List.pairwise_cons.1 hs
    by_cases c1 : a < x
    · have e1 : ((a :: r).filter fun y => decide (y < x)).length = (r.filter fun y => decide (y < x)).length + 1 := by simp [c1]
      have e2 : ((a :: r).filter fun y => decide (y ≤ x)).length = (r.filter fun y => decide (y ≤ x)).length + 1 := by simp [show a ≤ x by omega]
      rw [e1] at h1
      rw [e2] at h2
      cases j with
      | zero => omega
      | succ j =>
        have := kth_sorted x r j hr (by omega) (by omega)
        unfold rd at this ⊢
        simpa [show ((j : Int) + 1).toNat = j + 1 by omega] using this
    · by_cases c2 : a = x
      · subst c2
        cases j with
        | zero => simp [rd]
        | succ j =>
          have e2 : ((a :: r).filter fun y => decide (y ≤ a)).length = (r.filter fun y => decide (y ≤ a)).length + 1 := by simp
          rw [e2] at h2
          have e0 : (r.filter fun y => decide (y < a)).length = 0 := by
            rw [List.length_eq_zero_iff, List.filter_eq_nil_iff]
            intro y hy; have := ha y hy; simp; omega
          have := kth_sorted a r j hr (by omega) (by omega)
          unfold rd at this ⊢
          simpa [show ((j : Int) + 1).toNat = j + 1 by omega] using this
      · have e2 : ((a :: r).filter fun y => decide (y ≤ x)).length = 0 := by
          rw [List.length_eq_zero_iff, List.filter_eq_nil_iff]
          intro y hy
          rcases List.mem_cons.1 hy with rfl | hy
          · simp; omega
          · have := ha y hy; simp; omega
        omega
theorem kth (xs : List Int) (x : Int) (j : Nat) (h1 : (xs.filter fun y => decide (y < x)).length ≤ j) (h2 : j < (xs.filter fun y => decide (y ≤ x)).length) : rd (sortI xs) j = x := by
  have hp : (sortI xs).Perm xs := List.mergeSort_perm xs _
  have hs : (sortI xs).Pairwise (· ≤ ·) := by
    have := List.pairwise_mergeSort (le := fun x y : Int => decide (x ≤ y)) (fun a b c h1 h2 => by simp at *; omega) (fun a b => by simp; omega) xs
    refine this.imp ?_
    intro a b h; simpa using h
  refine kth_sorted x _ j hs ?_ ?_
  · rw [(hp.filter _).length_eq]; exact h1
  · rw [(hp.filter _).length_eq]; exact h2
theorem hoods5 : hoodsV 1 l5 2 5 = g5 := by
  have h0 : hoodV 1 l5 2 [0] = ⟨3, [0, 1]⟩ := by
    unfold hoodV; rw [show mn 2 (l5.length : Int) - 1 = ((1 : Nat) : Int) by kernel_rfl, kth (keysV 1 l5 [0]) 3 1 (by decide) (by decide)]; kernel_rfl
  have h1 : hoodV 1 l5 2 [3] = ⟨1, [1, 2]⟩ := by
    unfold hoodV; rw [show mn 2 (l5.length : Int) - 1 = ((1 : Nat) : Int) by kernel_rfl, kth (keysV 1 l5 [3]) 1 1 (by decide) (by decide)]; kernel_rfl
  have h2 : hoodV 1 l5 2 [4] = ⟨1, [1, 2]⟩ := by
    unfold hoodV; rw [show mn 2 (l5.length : Int) - 1 = ((1 : Nat) : Int) by kernel_rfl, kth (keysV 1 l5 [4]) 1 1 (by decide) (by decide)]; kernel_rfl
  have h3 : hoodV 1 l5 2 [9] = ⟨1, [3, 4]⟩ := by
    unfold hoodV; rw [show mn 2 (l5.length : Int) - 1 = ((1 : Nat) : Int) by kernel_rfl, kth (keysV 1 l5 [9]) 1 1 (by decide) (by decide)]; kernel_rfl
  have h4 : hoodV 1 l5 2 [10] = ⟨1, [3, 4]⟩ := by
    unfold hoodV; rw [show mn 2 (l5.length : Int) - 1 = ((1 : Nat) : Int) by kernel_rfl, kth (keysV 1 l5 [10]) 1 1 (by decide) (by decide)]; kernel_rfl
  show [hoodV 1 l5 2 [0], hoodV 1 l5 2 [3], hoodV 1 l5 2 [4], hoodV 1 l5 2 [9], hoodV 1 l5 2 [10]] = g5
  rw [h0, h1, h2, h3, h4]; rfl
theorem build5 : graph_Build.f 1 l5 2 = some (g5, 0) := by
  unfold graph_Build.f
  rw [if_pos ⟨right5, by decide, by decide⟩]
  show some (hoodsV 1 l5 2 5, (0 : Int)) = _
  rw [hoods5]
theorem walk5 : walkV (keysV 1 l5 [5]) g5 0 = [0, 1, 2] := by
  rw [walkV_go (by decide) (by decide), show nextV (keysV 1 l5 [5]) g5 0 = 1 by kernel_rfl, walkV_go (by decide) (by decide), show nextV (keysV 1 l5 [5]) g5 1 = 2 by kernel_rfl, walkV_end (by decide)]
theorem walk4 : walkV (keysV 1 l5 [4]) g5 0 = [0, 1, 2] := by
  rw [walkV_go (by decide) (by decide), show nextV (keysV 1 l5 [4]) g5 0 = 1 by kernel_rfl, walkV_go (by decide) (by decide), show nextV (keysV 1 l5 [4]) g5 1 = 2 by kernel_rfl, walkV_end (by decide)]
theorem walk6 : walkV (keysV 1 l5 [6]) g5 0 = [0, 1, 2] := by
  rw [walkV_go (by decide) (by decide), show nextV (keysV 1 l5 [6]) g5 0 = 1 by kernel_rfl, walkV_go (by decide) (by decide), show nextV (keysV 1 l5 [6]) g5 1 = 2 by kernel_rfl, walkV_end (by decide)]
theorem walk44 : walkV (keysV 1 l5 [4]) g5 4 = [4, 3] := by
  rw [walkV_go (by decide) (by decide), show nextV (keysV 1 l5 [4]) g5 4 = 3 by kernel_rfl, walkV_end (by decide)]
theorem within4 : withinV 1 (keysV 1 l5 [4]) g5 0 1 = ([1, 2], 2, true) := by
  unfold withinV; rw [walk4]; kernel_rfl
theorem within6 : withinV 1 (keysV 1 l5 [6]) g5 0 2 = ([], 2, false) := by
  unfold withinV; rw [walk6]; kernel_rfl
theorem nearest4 : nearestV 1 (keysV 1 l5 [4]) g5 0 2 5 = ([2, 1], 2, true) := by
  unfold nearestV; rw [walk4]; kernel_rfl
theorem nearest44 : nearestV 1 (keysV 1 l5 [4]) g5 4 2 5 = ([3, 4], 3, false) := by
  unfold nearestV; rw [walk44]; kernel_rfl
theorem C_l5 (W : World) (b0 b1 b2 b3 b4 b : Nat) (h0 : W.heap[b0]? = some (.cells #[.int .i64 0] 3 (0, 0))) (h1 : W.heap[b1]? = some (.cells #[.int .i64 3] 3 (0, 0))) (h2 : W.heap[b2]? = some (.cells #[.int .i64 4] 3 (0, 0))) (h3 : W.heap[b3]? = some (.cells #[.int .i64 9] 3 (0, 0))) (h4 : W.heap[b4]? = some (.cells #[.int .i64 10] 3 (0, 0)))
    (h : W.heap[b]? = some (.cells #[.slice (some ⟨b0, 0, none⟩) 1 1, .slice (some ⟨b1, 0, none⟩) 1 1, .slice (some ⟨b2, 0, none⟩) 1 1, .slice (some ⟨b3, 0, none⟩) 1 1, .slice (some ⟨b4, 0, none⟩) 1 1] 26 (0, 0))) : Kd.C (Kd.slice 3 (Kd.int .i64)) W (some ⟨b, 0, none⟩) l5.length l5 := by
  refine C_blk (Kd.slice 3 (Kd.int .i64)) W b [[.slice (some ⟨b0, 0, none⟩) 1 1], [.slice (some ⟨b1, 0, none⟩) 1 1], [.slice (some ⟨b2, 0, none⟩) 1 1], [.slice (some ⟨b3, 0, none⟩) 1 1], [.slice (some ⟨b4, 0, none⟩) 1 1]] l5 26 (0, 0) h rfl ?_ (by decide)
  intro j x c hx hc
  match j with
  | 0 => simp [l5] at hx hc; subst hx hc; exact ⟨_, _, rfl, by decide, C_ints W b0 [0] _ _ h0 (by decide)⟩
  | 1 => simp [l5] at hx hc; subst hx hc; exact ⟨_, _, rfl, by decide, C_ints W b1 [3] _ _ h1 (by decide)⟩
  | 2 => simp [l5] at hx hc; subst hx hc; exact ⟨_, _, rfl, by decide, C_ints W b2 [4] _ _ h2 (by decide)⟩
  | 3 => simp [l5] at hx hc; subst hx hc; exact ⟨_, _, rfl, by decide, C_ints W b3 [9] _ _ h3 (by decide)⟩
  | 4 => simp [l5] at hx hc; subst hx hc; exact ⟨_, _, rfl, by decide, C_ints W b4 [10] _ _ h4 (by decide)⟩
  | j + 5 => simp [l5] at hx
theorem C_g5 (W : World) (b0 b1 b2 b3 b4 b : Nat) (h0 : W.heap[b0]? = some (.cells #[.int .i64 0, .int .i64 1] 3 (0, 0))) (h1 : W.heap[b1]? = some (.cells #[.int .i64 1, .int .i64 2] 3 (0, 0))) (h2 : W.heap[b2]? = some (.cells #[.int .i64 1, .int .i64 2] 3 (0, 0))) (h3 : W.heap[b3]? = some (.cells #[.int .i64 3, .int .i64 4] 3 (0, 0))) (h4 : W.heap[b4]? = some (.cells #[.int .i64 3, .int .i64 4] 3 (0, 0)))
    (h : W.heap[b]? = some (.cells #[.int .i64 3, .slice (some ⟨b0, 0, none⟩) 2 2, .int .i64 1, .slice (some ⟨b1, 0, none⟩) 2 2, .int .i64 1, .slice (some ⟨b2, 0, none⟩) 2 2, .int .i64 1, .slice (some ⟨b3, 0, none⟩) 2 2, .int .i64 1, .slice (some ⟨b4, 0, none⟩) 2 2] 61 (0, 0))) : Kd.C k61 W (some ⟨b, 0, none⟩) g5.length g5 := by
  refine C_blk k61 W b [[.int .i64 3, .slice (some ⟨b0, 0, none⟩) 2 2], [.int .i64 1, .slice (some ⟨b1, 0, none⟩) 2 2], [.int .i64 1, .slice (some ⟨b2, 0, none⟩) 2 2], [.int .i64 1, .slice (some ⟨b3, 0, none⟩) 2 2], [.int .i64 1, .slice (some ⟨b4, 0, none⟩) 2 2]] g5 61 (0, 0) h rfl ?_ (by decide)
  intro j x c hx hc
  match j with
  | 0 => simp [g5] at hx hc; subst hx hc; exact k61_mk W ⟨3, [0, 1]⟩ (by decide) (C_ints W b0 [0, 1] _ _ h0 (by decide))
  | 1 => simp [g5] at hx hc; subst hx hc; exact k61_mk W ⟨1, [1, 2]⟩ (by decide) (C_ints W b1 [1, 2] _ _ h1 (by decide))
  | 2 => simp [g5] at hx hc; subst hx hc; exact k61_mk W ⟨1, [1, 2]⟩ (by decide) (C_ints W b2 [1, 2] _ _ h2 (by decide))
  | 3 => simp [g5] at hx hc; subst hx hc; exact k61_mk W ⟨1, [3, 4]⟩ (by decide) (C_ints W b3 [3, 4] _ _ h3 (by decide))
  | 4 => simp [g5] at hx hc; subst hx hc; exact k61_mk W ⟨1, [3, 4]⟩ (by decide) (C_ints W b4 [3, 4] _ _ h4 (by decide))
  | j + 5 => simp [g5] at hx
theorem lay_l5 (w : World) : Kd.C (Kd.slice 3 (Kd.int .i64)) ((((((w.alloc (.cells #[.int .i64 0] 3)).alloc (.cells #[.int .i64 3] 3)).alloc (.cells #[.int .i64 4] 3)).alloc (.cells #[.int .i64 9] 3)).alloc (.cells #[.int .i64 10] 3)).alloc (.cells #[.slice (some ⟨w.heap.size, 0, none⟩) 1 1, .slice (some ⟨w.heap.size + 1, 0, none⟩) 1 1, .slice (some ⟨w.heap.size + 1 + 1, 0, none⟩) 1 1, .slice (some ⟨w.heap.size + 1 + 1 + 1, 0, none⟩) 1 1, .slice (some ⟨w.heap.size + 1 + 1 + 1 + 1, 0, none⟩) 1 1] 26)) (some ⟨w.heap.size + 1 + 1 + 1 + 1 + 1, 0, none⟩) l5.length l5 ∧ Below w.heap.size w ((((((w.alloc (.cells #[.int .i64 0] 3)).alloc (.cells #[.int .i64 3] 3)).alloc (.cells #[.int .i64 4] 3)).alloc (.cells #[.int .i64 9] 3)).alloc (.cells #[.int .i64 10] 3)).alloc (.cells #[.slice (some ⟨w.heap.size, 0, none⟩) 1 1, .slice (some ⟨w.heap.size + 1, 0, none⟩) 1 1, .slice (some ⟨w.heap.size + 1 + 1, 0, none⟩) 1 1, .slice (some ⟨w.heap.size + 1 + 1 + 1, 0, none⟩) 1 1, .slice (some ⟨w.heap.size + 1 + 1 + 1 + 1, 0, none⟩) 1 1] 26)) := by
  refine ⟨?_, below_alloc (below_alloc (below_alloc (below_alloc (below_alloc (below_alloc (Below.refl _ w) _) _) _) _) _) _⟩
  have X0 := blk_alloc (blk_alloc (blk_alloc (blk_alloc (blk_alloc (blk_new w (.cells #[.int .i64 0] 3)) (.cells #[.int .i64 3] 3)) (.cells #[.int .i64 4] 3)) (.cells #[.int .i64 9] 3)) (.cells #[.int .i64 10] 3)) (.cells #[.slice (some ⟨w.heap.size, 0, none⟩) 1 1, .slice (some ⟨w.heap.size + 1, 0, none⟩) 1 1, .slice (some ⟨w.heap.size + 1 + 1, 0, none⟩) 1 1, .slice (some ⟨w.heap.size + 1 + 1 + 1, 0, none⟩) 1 1, .slice (some ⟨w.heap.size + 1 + 1 + 1 + 1, 0, none⟩) 1 1] 26)
  have X1 := blk_alloc (blk_alloc (blk_alloc (blk_alloc (blk_new (w.alloc (.cells #[.int .i64 0] 3)) (.cells #[.int .i64 3] 3)) (.cells #[.int .i64 4] 3)) (.cells #[.int .i64 9] 3)) (.cells #[.int .i64 10] 3)) (.cells #[.slice (some ⟨w.heap.size, 0, none⟩) 1 1, .slice (some ⟨w.heap.size + 1, 0, none⟩) 1 1, .slice (some ⟨w.heap.size + 1 + 1, 0, none⟩) 1 1, .slice (some ⟨w.heap.size + 1 + 1 + 1, 0, none⟩) 1 1, .slice (some ⟨w.heap.size + 1 + 1 + 1 + 1, 0, none⟩) 1 1] 26)
  have X2 := blk_alloc (blk_alloc (blk_alloc (blk_new ((w.alloc (.cells #[.int .i64 0] 3)).alloc (.cells #[.int .i64 3] 3)) (.cells #[.int .i64 4] 3)) (.cells #[.int .i64 9] 3)) (.cells #[.int .i64 10] 3)) (.cells #[.slice (some ⟨w.heap.size, 0, none⟩) 1 1, .slice (some ⟨w.heap.size + 1, 0, none⟩) 1 1, .slice (some ⟨w.heap.size + 1 + 1, 0, none⟩) 1 1, .slice (some ⟨w.heap.size + 1 + 1 + 1, 0, none⟩) 1 1, .slice (some ⟨w.heap.size + 1 + 1 + 1 + 1, 0, none⟩) 1 1] 26)
  have X3 := blk_alloc (blk_alloc (blk_new (((w.alloc (.cells #[.int .i64 0] 3)).alloc (.cells #[.int .i64 3] 3)).alloc (.cells #[.int .i64 4] 3)) (.cells #[.int .i64 9] 3)) (.cells #[.int .i64 10] 3)) (.cells #[.slice (some ⟨w.heap.size, 0, none⟩) 1 1, .slice (some ⟨w.heap.size + 1, 0, none⟩) 1 1, .slice (some ⟨w.heap.size + 1 + 1, 0, none⟩) 1 1, .slice (some ⟨w.heap.size + 1 + 1 + 1, 0, none⟩) 1 1, .slice (some ⟨w.heap.size + 1 + 1 + 1 + 1, 0, none⟩) 1 1] 26)
  have X4 := blk_alloc (blk_new ((((w.alloc (.cells #[.int .i64 0] 3)).alloc (.cells #[.int .i64 3] 3)).alloc (.cells #[.int .i64 4] 3)).alloc (.cells #[.int .i64 9] 3)) (.cells #[.int .i64 10] 3)) (.cells #[.slice (some ⟨w.heap.size, 0, none⟩) 1 1, .slice (some ⟨w.heap.size + 1, 0, none⟩) 1 1, .slice (some ⟨w.heap.size + 1 + 1, 0, none⟩) 1 1, .slice (some ⟨w.heap.size + 1 + 1 + 1, 0, none⟩) 1 1, .slice (some ⟨w.heap.size + 1 + 1 + 1 + 1, 0, none⟩) 1 1] 26)
  have X5 := blk_new (((((w.alloc (.cells #[.int .i64 0] 3)).alloc (.cells #[.int .i64 3] 3)).alloc (.cells #[.int .i64 4] 3)).alloc (.cells #[.int .i64 9] 3)).alloc (.cells #[.int .i64 10] 3)) (.cells #[.slice (some ⟨w.heap.size, 0, none⟩) 1 1, .slice (some ⟨w.heap.size + 1, 0, none⟩) 1 1, .slice (some ⟨w.heap.size + 1 + 1, 0, none⟩) 1 1, .slice (some ⟨w.heap.size + 1 + 1 + 1, 0, none⟩) 1 1, .slice (some ⟨w.heap.size + 1 + 1 + 1 + 1, 0, none⟩) 1 1] 26)
  simp only [World.size_alloc] at X0 X1 X2 X3 X4 X5
  exact C_l5 _ _ _ _ _ _ _ X0 X1 X2 X3 X4 X5
theorem lay_g5 (w : World) : Kd.C k61 ((((((w.alloc (.cells #[.int .i64 0, .int .i64 1] 3)).alloc (.cells #[.int .i64 1, .int .i64 2] 3)).alloc (.cells #[.int .i64 1, .int .i64 2] 3)).alloc (.cells #[.int .i64 3, .int .i64 4] 3)).alloc (.cells #[.int .i64 3, .int .i64 4] 3)).alloc (.cells #[.int .i64 3, .slice (some ⟨w.heap.size, 0, none⟩) 2 2, .int .i64 1, .slice (some ⟨w.heap.size + 1, 0, none⟩) 2 2, .int .i64 1, .slice (some ⟨w.heap.size + 1 + 1, 0, none⟩) 2 2, .int .i64 1, .slice (some ⟨w.heap.size + 1 + 1 + 1, 0, none⟩) 2 2, .int .i64 1, .slice (some ⟨w.heap.size + 1 + 1 + 1 + 1, 0, none⟩) 2 2] 61)) (some ⟨w.heap.size + 1 + 1 + 1 + 1 + 1, 0, none⟩) g5.length g5 ∧ Below w.heap.size w ((((((w.alloc (.cells #[.int .i64 0, .int .i64 1] 3)).alloc (.cells #[.int .i64 1, .int .i64 2] 3)).alloc (.cells #[.int .i64 1, .int .i64 2] 3)).alloc (.cells #[.int .i64 3, .int .i64 4] 3)).alloc (.cells #[.int .i64 3, .int .i64 4] 3)).alloc (.cells #[.int .i64 3, .slice (some ⟨w.heap.size, 0, none⟩) 2 2, .int .i64 1, .slice (some ⟨w.heap.size + 1, 0, none⟩) 2 2, .int .i64 1, .slice (some ⟨w.heap.size + 1 + 1, 0, none⟩) 2 2, .int .i64 1, .slice (some ⟨w.heap.size + 1 + 1 + 1, 0, none⟩) 2 2, .int .i64 1, .slice (some ⟨w.heap.size + 1 + 1 + 1 + 1, 0, none⟩) 2 2] 61)) := by
  refine ⟨?_, below_alloc (below_alloc (below_alloc (below_alloc (below_alloc (below_alloc (Below.refl _ w) _) _) _) _) _) _⟩
  have X0 := blk_alloc (blk_alloc (blk_alloc (blk_alloc (blk_alloc (blk_new w (.cells #[.int .i64 0, .int .i64 1] 3)) (.cells #[.int .i64 1, .int .i64 2] 3)) (.cells #[.int .i64 1, .int .i64 2] 3)) (.cells #[.int .i64 3, .int .i64 4] 3)) (.cells #[.int .i64 3, .int .i64 4] 3)) (.cells #[.int .i64 3, .slice (some ⟨w.heap.size, 0, none⟩) 2 2, .int .i64 1, .slice (some ⟨w.heap.size + 1, 0, none⟩) 2 2, .int .i64 1, .slice (some ⟨w.heap.size + 1 + 1, 0, none⟩) 2 2, .int .i64 1, .slice (some ⟨w.heap.size + 1 + 1 + 1, 0, none⟩) 2 2, .int .i64 1, .slice (some ⟨w.heap.size + 1 + 1 + 1 + 1, 0, none⟩) 2 2] 61)
  have X1 := blk_alloc (blk_alloc (blk_alloc (blk_alloc (blk_new (w.alloc (.cells #[.int .i64 0, .int .i64 1] 3)) (.cells #[.int .i64 1, .int .i64 2] 3)) (.cells #[.int .i64 1, .int .i64 2] 3)) (.cells #[.int .i64 3, .int .i64 4] 3)) (.cells #[.int .i64 3, .int .i64 4] 3)) (.cells #[.int .i64 3, .slice (some ⟨w.heap.size, 0, none⟩) 2 2, .int .i64 1, .slice (some ⟨w.heap.size + 1, 0, none⟩) 2 2, .int .i64 1, .slice (some ⟨w.heap.size + 1 + 1, 0, none⟩) 2 2, .int .i64 1, .slice (some ⟨w.heap.size + 1 + 1 + 1, 0, none⟩) 2 2, .int .i64 1, .slice (some ⟨w.heap.size + 1 + 1 + 1 + 1, 0, none⟩) 2 2] 61)
  have X2 := blk_alloc (blk_alloc (blk_alloc (blk_new ((w.alloc (.cells #[.int .i64 0, .int .i64 1] 3)).alloc (.cells #[.int .i64 1, .int .i64 2] 3)) (.cells #[.int .i64 1, .int .i64 2] 3)) (.cells #[.int .i64 3, .int .i64 4] 3)) (.cells #[.int .i64 3, .int .i64 4] 3)) (.cells #[.int .i64 3, .slice (some ⟨w.heap.size, 0, none⟩) 2 2, .int .i64 1, .slice (some ⟨w.heap.size + 1, 0, none⟩) 2 2, .int .i64 1, .slice (some ⟨w.heap.size + 1 + 1, 0, none⟩) 2 2, .int .i64 1, .slice (some ⟨w.heap.size + 1 + 1 + 1, 0, none⟩) 2 2, .int .i64 1, .slice (some ⟨w.heap.size + 1 + 1 + 1 + 1, 0, none⟩) 2 2] 61)
  have X3 := blk_alloc (blk_alloc (blk_new (((w.alloc (.cells #[.int .i64 0, .int .i64 1] 3)).alloc (.cells #[.int .i64 1, .int .i64 2] 3)).alloc (.cells #[.int .i64 1, .int .i64 2] 3)) (.cells #[.int .i64 3, .int .i64 4] 3)) (.cells #[.int .i64 3, .int .i64 4] 3)) (.cells #[.int .i64 3, .slice (some ⟨w.heap.size, 0, none⟩) 2 2, .int .i64 1, .slice (some ⟨w.heap.size + 1, 0, none⟩) 2 2, .int .i64 1, .slice (some ⟨w.heap.size + 1 + 1, 0, none⟩) 2 2, .int .i64 1, .slice (some ⟨w.heap.size + 1 + 1 + 1, 0, none⟩) 2 2, .int .i64 1, .slice (some ⟨w.heap.size + 1 + 1 + 1 + 1, 0, none⟩) 2 2] 61)
  have X4 := blk_alloc (blk_new ((((w.alloc (.cells #[.int .i64 0, .int .i64 1] 3)).alloc (.cells #[.int .i64 1, .int .i64 2] 3)).alloc (.cells #[.int .i64 1, .int .i64 2] 3)).alloc (.cells #[.int .i64 3, .int .i64 4] 3)) (.cells #[.int .i64 3, .int .i64 4] 3)) (.cells #[.int .i64 3, .slice (some ⟨w.heap.size, 0, none⟩) 2 2, .int .i64 1, .slice (some ⟨w.heap.size + 1, 0, none⟩) 2 2, .int .i64 1, .slice (some ⟨w.heap.size + 1 + 1, 0, none⟩) 2 2, .int .i64 1, .slice (some ⟨w.heap.size + 1 + 1 + 1, 0, none⟩) 2 2, .int .i64 1, .slice (some ⟨w.heap.size + 1 + 1 + 1 + 1, 0, none⟩) 2 2] 61)
  have X5 := blk_new (((((w.alloc (.cells #[.int .i64 0, .int .i64 1] 3)).alloc (.cells #[.int .i64 1, .int .i64 2] 3)).alloc (.cells #[.int .i64 1, .int .i64 2] 3)).alloc (.cells #[.int .i64 3, .int .i64 4] 3)).alloc (.cells #[.int .i64 3, .int .i64 4] 3)) (.cells #[.int .i64 3, .slice (some ⟨w.heap.size, 0, none⟩) 2 2, .int .i64 1, .slice (some ⟨w.heap.size + 1, 0, none⟩) 2 2, .int .i64 1, .slice (some ⟨w.heap.size + 1 + 1, 0, none⟩) 2 2, .int .i64 1, .slice (some ⟨w.heap.size + 1 + 1 + 1, 0, none⟩) 2 2, .int .i64 1, .slice (some ⟨w.heap.size + 1 + 1 + 1 + 1, 0, none⟩) 2 2] 61)
  simp only [World.size_alloc] at X0 X1 X2 X3 X4 X5
  exact C_g5 _ _ _ _ _ _ _ X0 X1 X2 X3 X4 X5
theorem high_some (m : Int) (hm : m ≠ 2) (a b : Int) (ha : keyB a = true) (hb : keyB b = true) : ∃ r, metric_High.f m a b = some r := by
  unfold metric_High.f
  rw [if_pos ⟨ha, hb⟩, if_neg hm]
  exact ⟨_, rfl⟩
theorem sort5 (F : Int → Int → Int) : ∀ h ∈ g5, SortOk F h.f1 := by
  intro h hh
  simp [g5] at hh
  rcases hh with rfl | rfl | rfl | rfl <;> exact ⟨by decide, fun hc => absurd hc (by decide)⟩
theorem keyB5 (x : Int) (hx : x = 4 ∨ x = 5 ∨ x = 6) (a : Int) (h0 : 0 ≤ a) (h1 : a < (l5.length : Int)) : keyB (rd (keysV 1 l5 [x]) a) = true := by
  have h2 : a < 5 := h1
  have h3 : a = 0 ∨ a = 1 ∨ a = 2 ∨ a = 3 ∨ a = 4 := by omega
  rcases hx with rfl | rfl | rfl <;> rcases h3 with rfl | rfl | rfl | rfl | rfl <;> decide
set_option maxHeartbeats 8000000 in
set_option maxRecDepth 100000 in
theorem sanityC (w : World) : Calls Tryz.prog 8 #[] w fun e w' => e = .returned (.bool true) ∧ Below w.heap.size w w' := by
  have hu := Tryz.underlying61
  have hu2 := Tryz.underlying25
  obtain ⟨hL, hB⟩ := lay_l5 w
  go_enter Tryz.func8, Tryz.ntmps8
  go_wp2_with fail
  generalize ((((((w.alloc (.cells #[.int .i64 0] 3)).alloc (.cells #[.int .i64 3] 3)).alloc (.cells #[.int .i64 4] 3)).alloc (.cells #[.int .i64 9] 3)).alloc (.cells #[.int .i64 10] 3)).alloc (.cells #[.slice (some ⟨w.heap.size, 0, none⟩) 1 1, .slice (some ⟨w.heap.size + 1, 0, none⟩) 1 1, .slice (some ⟨w.heap.size + 1 + 1, 0, none⟩) 1 1, .slice (some ⟨w.heap.size + 1 + 1 + 1, 0, none⟩) 1 1, .slice (some ⟨w.heap.size + 1 + 1 + 1 + 1, 0, none⟩) 1 1] 26)) = W0 at hL hB ⊢
  generalize hbl : w.heap.size + 1 + 1 + 1 + 1 + 1 = bl at hL ⊢
  refine (graph_Build.calls 1 (some ⟨bl, 0, none⟩) 5 l5 2 g5 0 W0 hL (by decide) build5).mono ?_
  rintro e w1 ⟨v0, rfl, hR, hb⟩
  replace hR := Kd.S_R hR
  obtain ⟨Ag, cg, rfl⟩ := Kd.R_slice hR
  have HL1 := Aside0.mk (Kd.C_below hL hb)
  have HG1 := Aside0.mk (Kd.R_reads' hR).2.2
  have hcg := (Kd.R_reads' hR).2.1
  have HB1 := Aside0.mk (below_step hB hb)
  clear hL hB hb hR hbl
  obtain ⟨hG5, hB5⟩ := lay_g5 (w1.alloc (.cells #[.slice Ag g5.length cg] 25))
  have hX5 := blk_below (blk_new w1 (.cells #[.slice Ag g5.length cg] 25)) hB5
  have hB5' := (below_alloc (Below.refl w1.heap.size w1) (.cells #[.slice Ag g5.length cg] 25)).trans (hB5.mono (by simp))
  simp only [World.size_alloc] at hG5 hB5' hX5
  have HG5 := Aside0.mk hG5
  have HB5 := Aside0.mk hB5'
  have HX5 := Aside0.mk hX5
  clear hG5 hB5 hB5' hX5
  go_wp2_with fail
  refine (antiquaryref27_SameGraph.calls 60 Ag cg g5 _ 5 g5 true _ (Kd.C_alloc (Kd.C_below HG1.out HB5.out) _) hcg (Kd.C_alloc HG5.out _) (by decide) (by kernel_rfl)).mono ?_
  rintro e w2 ⟨rfl, hb⟩
  have HX2 := Aside0.mk (blk_below (blk_alloc HX5.out _) hb)
  have hb12 := below_step (below_alloc HB5.out _) hb
  have HL2 := Aside0.mk (Kd.C_below HL1.out hb12)
  have HG2 := Aside0.mk (Kd.C_below HG1.out hb12)
  have HB2 := Aside0.mk (below_step HB1.out hb12)
  clear hb hb12 HB5 HG5 HX5 HL1 HG1 HB1
  have cx := cell_of_blk HX2.out
  have cy : ∀ o, (w2.alloc o).cell? ⟨w1.heap.size, 0, none⟩ = some (.slice Ag g5.length cg) := fun o => cell_of_blk (blk_alloc HX2.out o)
  go_wp2_with fail
  refine (graph_Valid.calls 60 5 Ag cg g5 true w2 HG2.out hcg (by kernel_rfl)).mono ?_
  rintro e w3 ⟨rfl, hb⟩
  have hbk := below_step (Below.refl w2.heap.size w2) hb
  have HX3 := Aside0.mk (blk_below HX2.out hbk)
  have HL3 := Aside0.mk (Kd.C_below HL2.out hbk)
  have HG3 := Aside0.mk (Kd.C_below HG2.out hbk)
  have HB3 := Aside0.mk (below_step HB2.out hbk)
  clear hb hbk cx cy HX2 HL2 HG2 HB2 
  have cx := cell_of_blk HX3.out
  have cy : ∀ o, (w3.alloc o).cell? ⟨w1.heap.size, 0, none⟩ = some (.slice Ag g5.length cg) := fun o => cell_of_blk (blk_alloc HX3.out o)
  go_wp2_with fail
  refine (graph_Valid.calls 60 4 Ag cg g5 false w3 HG3.out hcg (by kernel_rfl)).mono ?_
  rintro e w4 ⟨rfl, hb⟩
  have hbk := below_step (Below.refl w3.heap.size w3) hb
  have HX4 := Aside0.mk (blk_below HX3.out hbk)
  have HL4 := Aside0.mk (Kd.C_below HL3.out hbk)
  have HG4 := Aside0.mk (Kd.C_below HG3.out hbk)
  have HB4 := Aside0.mk (below_step HB3.out hbk)
  clear hb hbk cx cy HX3 HL3 HG3 HB3 
  have cx := cell_of_blk HX4.out
  have cy : ∀ o, (w4.alloc o).cell? ⟨w1.heap.size, 0, none⟩ = some (.slice Ag g5.length cg) := fun o => cell_of_blk (blk_alloc HX4.out o)
  go_wp2_with fail
  refine (walkOkC 1 (some ⟨bl, 0, none⟩) 5 l5 Ag cg g5 _ 1 [5] 0 _ (Kd.C_alloc HL4.out _) (by decide) (Kd.C_alloc HG4.out _) hcg (C_ints _ _ [5] _ _ (blk_new _ _) (by decide)) (by decide) (beg5 5 0 (by kernel_rfl) (by decide) (by decide))).mono ?_
  rintro e w5 ⟨v0, rfl, hR, hb⟩
  simp only [show l5.length = 5 from rfl, walk5] at hR ⊢
  obtain ⟨ARW, cRW, rfl⟩ := Kd.R_slice hR
  have RW5 := Aside0.mk (Kd.R_reads' hR).2.2
  have hRW := (Kd.R_reads' hR).2.1
  have hbk := below_step (below_alloc (Below.refl w4.heap.size w4) _) hb
  have HX5 := Aside0.mk (blk_below HX4.out hbk)
  have HL5 := Aside0.mk (Kd.C_below HL4.out hbk)
  have HG5 := Aside0.mk (Kd.C_below HG4.out hbk)
  have HB5 := Aside0.mk (below_step HB4.out hbk)
  clear hb hbk cx cy hR HX4 HL4 HG4 HB4 
  have cx := cell_of_blk HX5.out
  have cy : ∀ o, (w5.alloc o).cell? ⟨w1.heap.size, 0, none⟩ = some (.slice Ag g5.length cg) := fun o => cell_of_blk (blk_alloc HX5.out o)
  go_wp2_with fail
  refine (withinOkC 1 (some ⟨bl, 0, none⟩) 5 l5 Ag cg g5 _ 1 [4] 0 1 _ (Kd.C_alloc HL5.out _) (by decide) (Kd.C_alloc HG5.out _) hcg (C_ints _ _ [4] _ _ (blk_new _ _) (by decide)) (by decide) (beg5 4 0 (by kernel_rfl) (by decide) (by decide)) (by decide) (by decide) (fun a h0 h1 => high_some 1 (by decide) _ _ (keyB5 4 (by decide) a h0 h1) (by decide))).mono ?_
  rintro e w6 ⟨v0, rfl, hR, hb⟩
  simp only [show l5.length = 5 from rfl, within4] at hR ⊢
  obtain ⟨ARA, cRA, rfl⟩ := Kd.R_slice hR
  have RA6 := Aside0.mk (Kd.R_reads' hR).2.2
  have hRA := (Kd.R_reads' hR).2.1
  have hbk := below_step (below_alloc (Below.refl w5.heap.size w5) _) hb
  have HX6 := Aside0.mk (blk_below HX5.out hbk)
  have HL6 := Aside0.mk (Kd.C_below HL5.out hbk)
  have HG6 := Aside0.mk (Kd.C_below HG5.out hbk)
  have HB6 := Aside0.mk (below_step HB5.out hbk)
  have RW6 := Aside0.mk (Kd.C_below RW5.out hbk)
  clear hb hbk cx cy hR HX5 HL5 HG5 HB5 RW5
  have cx := cell_of_blk HX6.out
  have cy : ∀ o, (w6.alloc o).cell? ⟨w1.heap.size, 0, none⟩ = some (.slice Ag g5.length cg) := fun o => cell_of_blk (blk_alloc HX6.out o)
  go_wp2_with fail
  refine (withinOkC 1 (some ⟨bl, 0, none⟩) 5 l5 Ag cg g5 _ 1 [6] 0 2 _ (Kd.C_alloc HL6.out _) (by decide) (Kd.C_alloc HG6.out _) hcg (C_ints _ _ [6] _ _ (blk_new _ _) (by decide)) (by decide) (beg5 6 0 (by kernel_rfl) (by decide) (by decide)) (by decide) (by decide) (fun a h0 h1 => high_some 1 (by decide) _ _ (keyB5 6 (by decide) a h0 h1) (by decide))).mono ?_
  rintro e w7 ⟨v0, rfl, hR, hb⟩
  simp only [show l5.length = 5 from rfl, within6] at hR ⊢
  obtain ⟨ARB, cRB, rfl⟩ := Kd.R_slice hR
  have RB7 := Aside0.mk (Kd.R_reads' hR).2.2
  have hRB := (Kd.R_reads' hR).2.1
  have hbk := below_step (below_alloc (Below.refl w6.heap.size w6) _) hb
  have HX7 := Aside0.mk (blk_below HX6.out hbk)
  have HL7 := Aside0.mk (Kd.C_below HL6.out hbk)
  have HG7 := Aside0.mk (Kd.C_below HG6.out hbk)
  have HB7 := Aside0.mk (below_step HB6.out hbk)
  have RW7 := Aside0.mk (Kd.C_below RW6.out hbk)
  have RA7 := Aside0.mk (Kd.C_below RA6.out hbk)
  clear hb hbk cx cy hR HX6 HL6 HG6 HB6 RW6 RA6
  have cx := cell_of_blk HX7.out
  have cy : ∀ o, (w7.alloc o).cell? ⟨w1.heap.size, 0, none⟩ = some (.slice Ag g5.length cg) := fun o => cell_of_blk (blk_alloc HX7.out o)
  go_wp2_with fail
  refine (nearestOkC 1 (some ⟨bl, 0, none⟩) 5 l5 Ag cg g5 _ 1 [4] 0 2 _ (Kd.C_alloc HL7.out _) (by decide) (Kd.C_alloc HG7.out _) hcg (C_ints _ _ [4] _ _ (blk_new _ _) (by decide)) (by decide) (beg5 4 0 (by kernel_rfl) (by decide) (by decide)) (by decide) (by decide) (sort5 _) (fun a b h0 h1 h2 h3 => high_some 1 (by decide) _ _ (keyB5 4 (by decide) a h0 h1) (keyB5 4 (by decide) b h2 h3))).mono ?_
  rintro e w8 ⟨v0, rfl, hR, hb⟩
  simp only [show l5.length = 5 from rfl, nearest4] at hR ⊢
  obtain ⟨ARC, cRC, rfl⟩ := Kd.R_slice hR
  have RC8 := Aside0.mk (Kd.R_reads' hR).2.2
  have hRC := (Kd.R_reads' hR).2.1
  have hbk := below_step (below_alloc (Below.refl w7.heap.size w7) _) hb
  have HX8 := Aside0.mk (blk_below HX7.out hbk)
  have HL8 := Aside0.mk (Kd.C_below HL7.out hbk)
  have HG8 := Aside0.mk (Kd.C_below HG7.out hbk)
  have HB8 := Aside0.mk (below_step HB7.out hbk)
  have RW8 := Aside0.mk (Kd.C_below RW7.out hbk)
  have RA8 := Aside0.mk (Kd.C_below RA7.out hbk)
  have RB8 := Aside0.mk (Kd.C_below RB7.out hbk)
  clear hb hbk cx cy hR HX7 HL7 HG7 HB7 RW7 RA7 RB7
  have cx := cell_of_blk HX8.out
  have cy : ∀ o, (w8.alloc o).cell? ⟨w1.heap.size, 0, none⟩ = some (.slice Ag g5.length cg) := fun o => cell_of_blk (blk_alloc HX8.out o)
  go_wp2_with fail
  refine (nearestOkC 1 (some ⟨bl, 0, none⟩) 5 l5 Ag cg g5 _ 1 [4] 4 2 _ (Kd.C_alloc HL8.out _) (by decide) (Kd.C_alloc HG8.out _) hcg (C_ints _ _ [4] _ _ (blk_new _ _) (by decide)) (by decide) (beg5 4 4 (by kernel_rfl) (by decide) (by decide)) (by decide) (by decide) (sort5 _) (fun a b h0 h1 h2 h3 => high_some 1 (by decide) _ _ (keyB5 4 (by decide) a h0 h1) (keyB5 4 (by decide) b h2 h3))).mono ?_
  rintro e w9 ⟨v0, rfl, hR, hb⟩
  simp only [show l5.length = 5 from rfl, nearest44] at hR ⊢
  obtain ⟨ARD, cRD, rfl⟩ := Kd.R_slice hR
  have RD9 := Aside0.mk (Kd.R_reads' hR).2.2
  have hRD := (Kd.R_reads' hR).2.1
  have hbk := below_step (below_alloc (Below.refl w8.heap.size w8) _) hb
  have HX9 := Aside0.mk (blk_below HX8.out hbk)
  have HL9 := Aside0.mk (Kd.C_below HL8.out hbk)
  have HG9 := Aside0.mk (Kd.C_below HG8.out hbk)
  have HB9 := Aside0.mk (below_step HB8.out hbk)
  have RW9 := Aside0.mk (Kd.C_below RW8.out hbk)
  have RA9 := Aside0.mk (Kd.C_below RA8.out hbk)
  have RB9 := Aside0.mk (Kd.C_below RB8.out hbk)
  have RC9 := Aside0.mk (Kd.C_below RC8.out hbk)
  clear hb hbk cx cy hR HX8 HL8 HG8 HB8 RW8 RA8 RB8 RC8
  have cx := cell_of_blk HX9.out
  have cy : ∀ o, (w9.alloc o).cell? ⟨w1.heap.size, 0, none⟩ = some (.slice Ag g5.length cg) := fun o => cell_of_blk (blk_alloc HX9.out o)
  go_wp2_with fail
  refine (antiquaryref27_Same.calls 20 ARW cRW [0, 1, 2] _ 3 [0, 1, 2] true _ (Kd.C_alloc RW9.out _) hRW (C_ints _ _ [0, 1, 2] _ _ (blk_new _ _) (by decide)) (by decide) (by kernel_rfl)).mono ?_
  rintro e w10 ⟨rfl, hd⟩
  have hb := hd.below
  clear hd
  have hbk := below_step (below_alloc (Below.refl w9.heap.size w9) _) hb
  have HX10 := Aside0.mk (blk_below HX9.out hbk)
  have HL10 := Aside0.mk (Kd.C_below HL9.out hbk)
  have HG10 := Aside0.mk (Kd.C_below HG9.out hbk)
  have HB10 := Aside0.mk (below_step HB9.out hbk)
  have RW10 := Aside0.mk (Kd.C_below RW9.out hbk)
  have RA10 := Aside0.mk (Kd.C_below RA9.out hbk)
  have RB10 := Aside0.mk (Kd.C_below RB9.out hbk)
  have RC10 := Aside0.mk (Kd.C_below RC9.out hbk)
  have RD10 := Aside0.mk (Kd.C_below RD9.out hbk)
  clear hb hbk cx cy HX9 HL9 HG9 HB9 RW9 RA9 RB9 RC9 RD9
  have cx := cell_of_blk HX10.out
  have cy : ∀ o, (w10.alloc o).cell? ⟨w1.heap.size, 0, none⟩ = some (.slice Ag g5.length cg) := fun o => cell_of_blk (blk_alloc HX10.out o)
  go_wp2_with fail
  refine (antiquaryref27_Same.calls 20 ARA cRA [1, 2] _ 2 [1, 2] true _ (Kd.C_alloc RA10.out _) hRA (C_ints _ _ [1, 2] _ _ (blk_new _ _) (by decide)) (by decide) (by kernel_rfl)).mono ?_
  rintro e w11 ⟨rfl, hd⟩
  have hb := hd.below
  clear hd
  have hbk := below_step (below_alloc (Below.refl w10.heap.size w10) _) hb
  have HX11 := Aside0.mk (blk_below HX10.out hbk)
  have HL11 := Aside0.mk (Kd.C_below HL10.out hbk)
  have HG11 := Aside0.mk (Kd.C_below HG10.out hbk)
  have HB11 := Aside0.mk (below_step HB10.out hbk)
  have RW11 := Aside0.mk (Kd.C_below RW10.out hbk)
  have RA11 := Aside0.mk (Kd.C_below RA10.out hbk)
  have RB11 := Aside0.mk (Kd.C_below RB10.out hbk)
  have RC11 := Aside0.mk (Kd.C_below RC10.out hbk)
  have RD11 := Aside0.mk (Kd.C_below RD10.out hbk)
  clear hb hbk cx cy HX10 HL10 HG10 HB10 RW10 RA10 RB10 RC10 RD10
  have cx := cell_of_blk HX11.out
  have cy : ∀ o, (w11.alloc o).cell? ⟨w1.heap.size, 0, none⟩ = some (.slice Ag g5.length cg) := fun o => cell_of_blk (blk_alloc HX11.out o)
  go_wp2_with fail
  refine (antiquaryref27_Same.calls 20 ARC cRC [2, 1] _ 2 [2, 1] true _ (Kd.C_alloc RC11.out _) hRC (C_ints _ _ [2, 1] _ _ (blk_new _ _) (by decide)) (by decide) (by kernel_rfl)).mono ?_
  rintro e w12 ⟨rfl, hd⟩
  have hb := hd.below
  clear hd
  have hbk := below_step (below_alloc (Below.refl w11.heap.size w11) _) hb
  have HX12 := Aside0.mk (blk_below HX11.out hbk)
  have HL12 := Aside0.mk (Kd.C_below HL11.out hbk)
  have HG12 := Aside0.mk (Kd.C_below HG11.out hbk)
  have HB12 := Aside0.mk (below_step HB11.out hbk)
  have RW12 := Aside0.mk (Kd.C_below RW11.out hbk)
  have RA12 := Aside0.mk (Kd.C_below RA11.out hbk)
  have RB12 := Aside0.mk (Kd.C_below RB11.out hbk)
  have RC12 := Aside0.mk (Kd.C_below RC11.out hbk)
  have RD12 := Aside0.mk (Kd.C_below RD11.out hbk)
  clear hb hbk cx cy HX11 HL11 HG11 HB11 RW11 RA11 RB11 RC11 RD11
  have cx := cell_of_blk HX12.out
  have cy : ∀ o, (w12.alloc o).cell? ⟨w1.heap.size, 0, none⟩ = some (.slice Ag g5.length cg) := fun o => cell_of_blk (blk_alloc HX12.out o)
  go_wp2_with fail
  refine (antiquaryref27_Same.calls 20 ARD cRD [3, 4] _ 2 [3, 4] true _ (Kd.C_alloc RD12.out _) hRD (C_ints _ _ [3, 4] _ _ (blk_new _ _) (by decide)) (by decide) (by kernel_rfl)).mono ?_
  rintro e w13 ⟨rfl, hd⟩
  have hb := hd.below
  clear hd
  have hbk := below_step (below_alloc (Below.refl w12.heap.size w12) _) hb
  have HX13 := Aside0.mk (blk_below HX12.out hbk)
  have HL13 := Aside0.mk (Kd.C_below HL12.out hbk)
  have HG13 := Aside0.mk (Kd.C_below HG12.out hbk)
  have HB13 := Aside0.mk (below_step HB12.out hbk)
  have RW13 := Aside0.mk (Kd.C_below RW12.out hbk)
  have RA13 := Aside0.mk (Kd.C_below RA12.out hbk)
  have RB13 := Aside0.mk (Kd.C_below RB12.out hbk)
  have RC13 := Aside0.mk (Kd.C_below RC12.out hbk)
  have RD13 := Aside0.mk (Kd.C_below RD12.out hbk)
  clear hb hbk cx cy HX12 HL12 HG12 HB12 RW12 RA12 RB12 RC12 RD12
  have cx := cell_of_blk HX13.out
  have cy : ∀ o, (w13.alloc o).cell? ⟨w1.heap.size, 0, none⟩ = some (.slice Ag g5.length cg) := fun o => cell_of_blk (blk_alloc HX13.out o)
  go_wp2_with fail
  refine (coversC 1 1 0 1 1 w13 (by kernel_rfl)).mono ?_
  rintro e w14 ⟨rfl, hb⟩
  have hbk := below_step (Below.refl w13.heap.size w13) hb
  have HX14 := Aside0.mk (blk_below HX13.out hbk)
  have HL14 := Aside0.mk (Kd.C_below HL13.out hbk)
  have HG14 := Aside0.mk (Kd.C_below HG13.out hbk)
  have HB14 := Aside0.mk (below_step HB13.out hbk)
  have RW14 := Aside0.mk (Kd.C_below RW13.out hbk)
  have RA14 := Aside0.mk (Kd.C_below RA13.out hbk)
  have RB14 := Aside0.mk (Kd.C_below RB13.out hbk)
  have RC14 := Aside0.mk (Kd.C_below RC13.out hbk)
  have RD14 := Aside0.mk (Kd.C_below RD13.out hbk)
  clear hb hbk cx cy HX13 HL13 HG13 HB13 RW13 RA13 RB13 RC13 RD13
  have cx := cell_of_blk HX14.out
  have cy : ∀ o, (w14.alloc o).cell? ⟨w1.heap.size, 0, none⟩ = some (.slice Ag g5.length cg) := fun o => cell_of_blk (blk_alloc HX14.out o)
  go_wp2_with fail
  refine (coversC 1 1 1 1 2 w14 (by kernel_rfl)).mono ?_
  rintro e w15 ⟨rfl, hb⟩
  have hbk := below_step (Below.refl w14.heap.size w14) hb
  have HX15 := Aside0.mk (blk_below HX14.out hbk)
  have HL15 := Aside0.mk (Kd.C_below HL14.out hbk)
  have HG15 := Aside0.mk (Kd.C_below HG14.out hbk)
  have HB15 := Aside0.mk (below_step HB14.out hbk)
  have RW15 := Aside0.mk (Kd.C_below RW14.out hbk)
  have RA15 := Aside0.mk (Kd.C_below RA14.out hbk)
  have RB15 := Aside0.mk (Kd.C_below RB14.out hbk)
  have RC15 := Aside0.mk (Kd.C_below RC14.out hbk)
  have RD15 := Aside0.mk (Kd.C_below RD14.out hbk)
  clear hb hbk cx cy HX14 HL14 HG14 HB14 RW14 RA14 RB14 RC14 RD14
  go_wp2
  go_ret
  exact ⟨ret_bool (by simp), HB15.out⟩
def antiquaryref27_Few.l0 : Nat → Int → List (S61) → Option (Bool)
  | 0, _, _ => none
  | k + 1, x3, x237000 => if x3 < (x237000.length : Int) then (if 0 ≤ x3 then (if (((rd_T61 x237000 x3).f1).length : Int) > 40 then (some false) else (antiquaryref27_Few.l0 k (wrap64 (x3 + 1)) x237000)) else (none)) else (some true)
def antiquaryref27_Few.f (k : Nat) (l0_0 : List (S61)) : Option (Bool) := if (l0_0.length : Int) > 30 then (some false) else (antiquaryref27_Few.l0 k 0 l0_0)
theorem antiquaryref27_Few.mono_l : ∀ k, (∀ y0 y1, LeO (antiquaryref27_Few.l0 k y0 y1) (antiquaryref27_Few.l0 (k + 1) y0 y1))
  | 0 => fun _ _ r h => by simp [antiquaryref27_Few.l0] at h
  | k + 1 => by
    have ih0 := antiquaryref27_Few.mono_l k
    · intro y0 y1
      unfold antiquaryref27_Few.l0
      repeat' first
      | (with_reducible exact ih0 _ _)
      | (with_reducible exact LeO.refl _)
      | (with_reducible exact LeO.none _)
      | (with_reducible refine LeO.ite ?_ ?_)
      | (with_reducible refine LeO.bind ?_ (fun _ => ?_))
      | exact ih0 _ _
      | exact LeO.none _
      | refine LeO.ite ?_ ?_
      | refine LeO.bind ?_ (fun _ => ?_)
theorem antiquaryref27_Few.mono : ∀ a0 k, LeO (antiquaryref27_Few.f k a0) (antiquaryref27_Few.f (k + 1) a0) := by
  intro a0 k
  have ih0 := antiquaryref27_Few.mono_l k
  unfold antiquaryref27_Few.f
  repeat' first
      | (with_reducible exact ih0 _ _)
      | (with_reducible exact LeO.refl _)
      | (with_reducible exact LeO.none _)
      | (with_reducible refine LeO.ite ?_ ?_)
      | (with_reducible refine LeO.bind ?_ (fun _ => ?_))
      | exact ih0 _ _
      | exact LeO.none _
      | refine LeO.ite ?_ ?_
      | refine LeO.bind ?_ (fun _ => ?_)
set_option maxHeartbeats 8000000 in
set_option maxRecDepth 100000 in
theorem antiquaryref27_Few.calls (k : Nat) (A0_0 : Option Addr) (c0_0 : Nat) (l0_0 : List (S61)) (r : Bool) (w : World) (hr0_0 : Kd.C k61 w A0_0 l0_0.length l0_0) (hc0_0 : l0_0.length ≤ c0_0) (h : antiquaryref27_Few.f k l0_0 = some r) :
    Calls Tryz.prog 7 #[.agg #[.slice A0_0 l0_0.length c0_0]] w fun e w' => e = .returned (.bool r) ∧ Below w.heap.size w w' := by
  have hu25 := Tryz.underlying25
  have HR0_0 := Aside0.mk hr0_0
  have HC0_0 := Aside0.mk hc0_0
  clear hr0_0 hc0_0
  have HB := Aside0.mk (Below.refl w.heap.size w)
  have H : (if (l0_0.length : Int) > 30 then (some false) else (antiquaryref27_Few.l0 k 0 l0_0)) = some r := h
  clear h
  by_cases c2 : (l0_0.length : Int) > 30
  · rw [if_pos c2] at H
    have c2b0 : decide (30 < (l0_0.length : Int)) = true := decide_eq_true c2
    have c2b1 : decide (30 < l0_0.length) = true := decide_eq_true (by omega)
    clear c2
    obtain rfl := Option.some.inj H
    go_enter Tryz.func7, Tryz.ntmps7
    go_wp2_with (first | ((with_reducible refine gate_dst (N := 1) rfl ?_); refine box_event ?hg (N := 1) ?hd (cs := #[.slice A0_0 l0_0.length c0_0]) (t := 25) ?hr ?_; (case hd => rfl); (case hg => rfl); (case hr => first | (go_simp; done) | (go_simp; rfl)); intro gb236 hg w3 hbox hb; have n0_ := Aside0.mk (below_step (by repeat (first | (with_reducible first | exact HB.out | apply below_alloc | apply pw_below_drewN | apply below_drew1) | exact HB.out)) hb); have n1_ := Aside0.mk (hbox); have n2_ := Aside0.mk ((by rw [hg]; exact (below_size (by repeat (first | (with_reducible first | exact HB.out | apply below_alloc | apply pw_below_drewN | apply below_drew1) | exact HB.out))) : w.heap.size ≤ gb236)); have n3_ := Aside0.mk ((by rw [hg]; exact (below_size (by repeat (first | (with_reducible first | exact HB.out | apply below_alloc | apply pw_below_drewN | apply below_drew1) | exact HB.out))) : w.heap.size ≤ gb236)); clear HB; have HB := n0_; have BK236 := n1_; have GW236 := n2_; have GE236 := n3_; clear n0_ n1_ n2_ n3_; clear hb hbox hg; have hcz4_0 : w3.cell? ⟨gb236, 0, none⟩ = some (.slice A0_0 l0_0.length c0_0) := (blk_cell BK236.out 0).trans rfl; have hfz4_0 := blk_frozen BK236.out 0))
    go_ret
    exact ⟨by first | rfl | (simp [errW_none, errW_some] <;> rfl) | (simp [*, errW_none, errW_some] <;> rfl), by repeat (first | (with_reducible first | exact HB.out | apply below_alloc | apply pw_below_drewN | apply below_drew1 | refine below_set ?_ GE236.out) | exact HB.out)⟩
  · rw [if_neg c2] at H
    have c2b0 : decide (30 < (l0_0.length : Int)) = false := decide_eq_false c2
    have c2b1 : decide (30 < l0_0.length) = false := decide_eq_false (by omega)
    clear c2
    have H' := Aside0.mk H
    clear H
    go_enter Tryz.func7, Tryz.ntmps7
    go_wp2_with (first | ((with_reducible refine gate_dst (N := 1) rfl ?_); refine box_event ?hg (N := 1) ?hd (cs := #[.slice A0_0 l0_0.length c0_0]) (t := 25) ?hr ?_; (case hd => rfl); (case hg => rfl); (case hr => first | (go_simp; done) | (go_simp; rfl)); intro gb236 hg w5 hbox hb; have n0_ := Aside0.mk (below_step (by repeat (first | (with_reducible first | exact HB.out | apply below_alloc | apply pw_below_drewN | apply below_drew1) | exact HB.out)) hb); have n1_ := Aside0.mk (hbox); have n2_ := Aside0.mk ((by rw [hg]; exact (below_size (by repeat (first | (with_reducible first | exact HB.out | apply below_alloc | apply pw_below_drewN | apply below_drew1) | exact HB.out))) : w.heap.size ≤ gb236)); have n3_ := Aside0.mk ((by rw [hg]; exact (below_size (by repeat (first | (with_reducible first | exact HB.out | apply below_alloc | apply pw_below_drewN | apply below_drew1) | exact HB.out))) : w.heap.size ≤ gb236)); clear HB; have HB := n0_; have BK236 := n1_; have GW236 := n2_; have GE236 := n3_; clear n0_ n1_ n2_ n3_; clear hb hbox hg; have hcz6_0 : w5.cell? ⟨gb236, 0, none⟩ = some (.slice A0_0 l0_0.length c0_0) := (blk_cell BK236.out 0).trans rfl; have hfz6_0 := blk_frozen BK236.out 0))
    go_loopg [3] k (fun kq v3 w' => ∃ (x3_1 : Int), v3 = .int .i64 x3_1 ∧ Aside0 (antiquaryref27_Few.l0 kq x3_1 l0_0 = some r) ∧ Aside0 (kq ≤ k) ∧ Aside0 (w'.heap[gb236]? = some (.cells #[(.slice A0_0 l0_0.length c0_0)] 25 (0, 0))) ∧ Aside0 (Below w.heap.size w w'))
    case atStart => exact ⟨(0), (by first | rfl | (simp; done) | (simp [*]; done)), H', ⟨Nat.le_refl _⟩, ⟨by (with_reducible repeat (first | refine blk_drewN ?_ _ | refine blk_drew ?_ | refine blk_alloc ?_ _)); exact BK236.out⟩, ⟨by repeat (first | (with_reducible first | exact HB.out | apply below_alloc | apply pw_below_drewN | apply below_drew1 | refine below_set ?_ GE236.out) | exact HB.out)⟩⟩
    case round =>
      clear H'
      try clear c2
      try clear c2b0
      try clear c2b1
      try clear p2
      try clear hcz4_0
      try clear hcz6_0
      try clear hfz4_0
      try clear hfz6_0
      obtain ⟨x3_1, rfl, HA, HK1, BK236, HB⟩ := hrel
      cases gk with
      | zero => exact absurd HA.out (by simp [antiquaryref27_Few.l0])
      | succ k1 =>
        have H := HA.out
        clear HA
        simp only [antiquaryref27_Few.l0] at H
        by_cases c7 : x3_1 < (l0_0.length : Int)
        · rw [if_pos c7] at H
          have c7b0 : decide (x3_1 < (l0_0.length : Int)) = true := decide_eq_true c7
          clear c7
          by_cases c8 : 0 ≤ x3_1
          · rw [if_pos c8] at H
            have c8b0 : decide (0 ≤ x3_1) = true := decide_eq_true c8
            clear c8
            by_cases c9 : (((rd_T61 l0_0 x3_1).f1).length : Int) > 40
            · rw [if_pos c9] at H
              have c9b0 : decide (40 < (((rd_T61 l0_0 x3_1).f1).length : Int)) = true := decide_eq_true c9
              have c9b1 : decide (40 < ((rd_T61 l0_0 x3_1).f1).length) = true := decide_eq_true (by omega)
              clear c9
              obtain rfl := Option.some.inj H
              have hcz10_0 : wr.cell? ⟨gb236, 0, none⟩ = some (.slice A0_0 l0_0.length c0_0) := (blk_cell BK236.out 0).trans rfl
              have hfz10_0 := blk_frozen BK236.out 0
              have p237 : 0 ≤ (x3_1 : Int) := of_decide_eq_true (by first | (with_reducible assumption) | assumption)
              have q237 : x3_1 < (l0_0.length : Int) := of_decide_eq_true (by first | (with_reducible assumption) | assumption)
              obtain ⟨ad237, A237_1, c237_1, e237, hx237_0, hx237_1, hl237_1, hi237_1⟩ := at_T61 HR0_0.out x3_1 p237 q237
              cases e237
              replace hx237_0 := (HB.out.cell (World.block_lt_of_cell? w _ hx237_0)).trans hx237_0
              replace hx237_1 := (HB.out.cell (World.block_lt_of_cell? w _ hx237_1)).trans hx237_1
              have HR237_1 := Aside0.mk hi237_1
              have HC237_1 := Aside0.mk hl237_1
              clear hi237_1 hl237_1
              replace p237 := eq_true p237
              replace q237 := eq_true q237
              go_wp2
              go_ret
              exact ⟨by first | rfl | (simp [errW_none, errW_some] <;> rfl) | (simp [*, errW_none, errW_some] <;> rfl), by repeat (first | (with_reducible first | exact HB.out | apply below_alloc | apply pw_below_drewN | apply below_drew1 | refine below_set ?_ GE236.out) | exact HB.out)⟩
            · rw [if_neg c9] at H
              have c9b0 : decide (40 < (((rd_T61 l0_0 x3_1).f1).length : Int)) = false := decide_eq_false c9
              have c9b1 : decide (40 < ((rd_T61 l0_0 x3_1).f1).length) = false := decide_eq_false (by omega)
              clear c9
              have H' := Aside0.mk H
              clear H
              have hcz11_0 : wr.cell? ⟨gb236, 0, none⟩ = some (.slice A0_0 l0_0.length c0_0) := (blk_cell BK236.out 0).trans rfl
              have hfz11_0 := blk_frozen BK236.out 0
              have p237 : 0 ≤ (x3_1 : Int) := of_decide_eq_true (by first | (with_reducible assumption) | assumption)
              have q237 : x3_1 < (l0_0.length : Int) := of_decide_eq_true (by first | (with_reducible assumption) | assumption)
              obtain ⟨ad237, A237_1, c237_1, e237, hx237_0, hx237_1, hl237_1, hi237_1⟩ := at_T61 HR0_0.out x3_1 p237 q237
              cases e237
              replace hx237_0 := (HB.out.cell (World.block_lt_of_cell? w _ hx237_0)).trans hx237_0
              replace hx237_1 := (HB.out.cell (World.block_lt_of_cell? w _ hx237_1)).trans hx237_1
              have HR237_1 := Aside0.mk hi237_1
              have HC237_1 := Aside0.mk hl237_1
              clear hi237_1 hl237_1
              replace p237 := eq_true p237
              replace q237 := eq_true q237
              go_wp2
              go_roundg k1
              case measure => have := HK1.out; omega
              case rel => exact ⟨(wrap64 (x3_1 + 1)), (by first | rfl | (simp; done) | (simp [*]; done)), H', ⟨by have := HK1.out; omega⟩, ⟨by (with_reducible repeat (first | refine blk_drewN ?_ _ | refine blk_drew ?_ | refine blk_alloc ?_ _)); exact BK236.out⟩, ⟨by repeat (first | (with_reducible first | exact HB.out | apply below_alloc | apply pw_below_drewN | apply below_drew1 | refine below_set ?_ GE236.out) | exact HB.out)⟩⟩
          · rw [if_neg c8] at H
            exact absurd H (by simp)
        · rw [if_neg c7] at H
          have c7b0 : decide (x3_1 < (l0_0.length : Int)) = false := decide_eq_false c7
          clear c7
          obtain rfl := Option.some.inj H
          have hcz12_0 : wr.cell? ⟨gb236, 0, none⟩ = some (.slice A0_0 l0_0.length c0_0) := (blk_cell BK236.out 0).trans rfl
          have hfz12_0 := blk_frozen BK236.out 0
          go_wp2
          go_ret
          exact ⟨by first | rfl | (simp [errW_none, errW_some] <;> rfl) | (simp [*, errW_none, errW_some] <;> rfl), by repeat (first | (with_reducible first | exact HB.out | apply below_alloc | apply pw_below_drewN | apply below_drew1 | refine below_set ?_ GE236.out) | exact HB.out)⟩
def antiquaryref09_Few.l0 : Nat → List (List Int) → Int → Option (Bool)
  | 0, _, _ => none
  | k + 1, x0, x5 => if x5 < (x0.length : Int) then (if 0 ≤ x5 then (if ((rd_L1 x0 x5).length : Int) > 40 then (some false) else (antiquaryref09_Few.l0 k x0 (wrap64 (x5 + 1)))) else (none)) else (some true)
def antiquaryref09_Few.f (k : Nat) (l0 : List (List Int)) (a1 : Int) : Option (Bool) := if (l0.length : Int) > a1 then (some false) else (antiquaryref09_Few.l0 k l0 0)
theorem antiquaryref09_Few.mono_l : ∀ k, (∀ y0 y1, LeO (antiquaryref09_Few.l0 k y0 y1) (antiquaryref09_Few.l0 (k + 1) y0 y1))
  | 0 => fun _ _ r h => by simp [antiquaryref09_Few.l0] at h
  | k + 1 => by
    have ih0 := antiquaryref09_Few.mono_l k
    · intro y0 y1
      unfold antiquaryref09_Few.l0
      repeat' first
      | (with_reducible exact ih0 _ _)
      | (with_reducible exact LeO.refl _)
      | (with_reducible exact LeO.none _)
      | (with_reducible refine LeO.ite ?_ ?_)
      | (with_reducible refine LeO.bind ?_ (fun _ => ?_))
      | exact ih0 _ _
      | exact LeO.none _
      | refine LeO.ite ?_ ?_
      | refine LeO.bind ?_ (fun _ => ?_)
theorem antiquaryref09_Few.mono : ∀ a0 a1 k, LeO (antiquaryref09_Few.f k a0 a1) (antiquaryref09_Few.f (k + 1) a0 a1) := by
  intro a0 a1 k
  have ih0 := antiquaryref09_Few.mono_l k
  unfold antiquaryref09_Few.f
  repeat' first
      | (with_reducible exact ih0 _ _)
      | (with_reducible exact LeO.refl _)
      | (with_reducible exact LeO.none _)
      | (with_reducible refine LeO.ite ?_ ?_)
      | (with_reducible refine LeO.bind ?_ (fun _ => ?_))
      | exact ih0 _ _
      | exact LeO.none _
      | refine LeO.ite ?_ ?_
      | refine LeO.bind ?_ (fun _ => ?_)
set_option maxHeartbeats 8000000 in
set_option maxRecDepth 100000 in
theorem antiquaryref09_Few.calls (k : Nat) (A0 : Option Addr) (c0 : Nat) (l0 : List (List Int)) (a1 : Int) (r : Bool) (w : World) (hr0 : Kd.C (Kd.slice 3 (Kd.int .i64)) w A0 l0.length l0) (hc0 : l0.length ≤ c0) (h : antiquaryref09_Few.f k l0 a1 = some r) :
    Calls Tryz.prog 6 #[.slice A0 l0.length c0, .int .i64 a1] w fun e w' => e = .returned (.bool r) ∧ Drawn0 w w' := by
  have HR0 := Aside0.mk hr0
  have HC0 := Aside0.mk hc0
  clear hr0 hc0
  have H : (if (l0.length : Int) > a1 then (some false) else (antiquaryref09_Few.l0 k l0 0)) = some r := h
  clear h
  by_cases c3 : (l0.length : Int) > a1
  · rw [if_pos c3] at H
    have c3b0 : decide (a1 < (l0.length : Int)) = true := decide_eq_true c3
    clear c3
    obtain rfl := Option.some.inj H
    go_enter Tryz.func6, Tryz.ntmps6
    go_wp2
    go_ret
    exact ⟨by first | rfl | (simp; done) | (simp [*]; done), by repeat (first | exact Drawn0.refl _ | apply Drawn0.step)⟩
  · rw [if_neg c3] at H
    have c3b0 : decide (a1 < (l0.length : Int)) = false := decide_eq_false c3
    clear c3
    have H' := Aside0.mk H
    clear H
    go_enter Tryz.func6, Tryz.ntmps6
    go_wp2
    go_loopg [5] k (fun kq v5 w' => ∃ (x5_1 : Int), v5 = .int .i64 x5_1 ∧ Aside0 (antiquaryref09_Few.l0 kq l0 x5_1 = some r) ∧ Aside0 (kq ≤ k) ∧ Drawn0 w w')
    case atStart => exact ⟨(0), (by first | rfl | (simp; done) | (simp [*]; done)), H', ⟨Nat.le_refl _⟩, by repeat (first | exact Drawn0.refl _ | apply Drawn0.step)⟩
    case round =>
      clear H'
      try clear p2
      try clear c3
      try clear c3b0
      obtain ⟨x5_1, rfl, HA, HK1, ⟨m1, rfl⟩⟩ := hrel
      cases gk with
      | zero => exact absurd HA.out (by simp [antiquaryref09_Few.l0])
      | succ k1 =>
        have H := HA.out
        clear HA
        simp only [antiquaryref09_Few.l0] at H
        by_cases c4 : x5_1 < (l0.length : Int)
        · rw [if_pos c4] at H
          have c4b0 : decide (x5_1 < (l0.length : Int)) = true := decide_eq_true c4
          clear c4
          by_cases c5 : 0 ≤ x5_1
          · rw [if_pos c5] at H
            have c5b0 : decide (0 ≤ x5_1) = true := decide_eq_true c5
            clear c5
            by_cases c6 : ((rd_L1 l0 x5_1).length : Int) > 40
            · rw [if_pos c6] at H
              have c6b0 : decide (40 < ((rd_L1 l0 x5_1).length : Int)) = true := decide_eq_true c6
              have c6b1 : decide (40 < (rd_L1 l0 x5_1).length) = true := decide_eq_true (by omega)
              clear c6
              obtain rfl := Option.some.inj H
              have p238 : 0 ≤ (x5_1 : Int) := of_decide_eq_true (by first | (with_reducible assumption) | assumption)
              have q238 : x5_1 < (l0.length : Int) := of_decide_eq_true (by first | (with_reducible assumption) | assumption)
              obtain ⟨ad238, A238_0, c238_0, e238, hx238_0, hl238_0, hi238_0⟩ := at_L1 HR0.out x5_1 p238 q238
              cases e238
              have HR238_0 := Aside0.mk hi238_0
              have HC238_0 := Aside0.mk hl238_0
              clear hi238_0 hl238_0
              replace p238 := eq_true p238
              replace q238 := eq_true q238
              go_wp2
              go_ret
              exact ⟨by first | rfl | (simp; done) | (simp [*]; done), by repeat (first | exact Drawn0.refl _ | apply Drawn0.step)⟩
            · rw [if_neg c6] at H
              have c6b0 : decide (40 < ((rd_L1 l0 x5_1).length : Int)) = false := decide_eq_false c6
              have c6b1 : decide (40 < (rd_L1 l0 x5_1).length) = false := decide_eq_false (by omega)
              clear c6
              have H' := Aside0.mk H
              clear H
              have p238 : 0 ≤ (x5_1 : Int) := of_decide_eq_true (by first | (with_reducible assumption) | assumption)
              have q238 : x5_1 < (l0.length : Int) := of_decide_eq_true (by first | (with_reducible assumption) | assumption)
              obtain ⟨ad238, A238_0, c238_0, e238, hx238_0, hl238_0, hi238_0⟩ := at_L1 HR0.out x5_1 p238 q238
              cases e238
              have HR238_0 := Aside0.mk hi238_0
              have HC238_0 := Aside0.mk hl238_0
              clear hi238_0 hl238_0
              replace p238 := eq_true p238
              replace q238 := eq_true q238
              go_wp2
              go_roundg k1
              case measure => have := HK1.out; omega
              case rel => exact ⟨(wrap64 (x5_1 + 1)), (by first | rfl | (simp; done) | (simp [*]; done)), H', ⟨by have := HK1.out; omega⟩, by repeat (first | exact Drawn0.refl _ | apply Drawn0.step)⟩
          · rw [if_neg c5] at H
            exact absurd H (by simp)
        · rw [if_neg c4] at H
          have c4b0 : decide (x5_1 < (l0.length : Int)) = false := decide_eq_false c4
          clear c4
          obtain rfl := Option.some.inj H
          go_wp2
          go_ret
          exact ⟨by first | rfl | (simp; done) | (simp [*]; done), by repeat (first | exact Drawn0.refl _ | apply Drawn0.step)⟩
end Go.Proofs.YthbkomkgciemiaaGreat.PKF
