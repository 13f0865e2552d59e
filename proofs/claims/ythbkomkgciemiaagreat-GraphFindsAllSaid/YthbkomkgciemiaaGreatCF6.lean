/- Texts of this claim, merged: part 6. -/
import Derived.Test.YthbkomkgciemiaaGreatCF4
import Derived.Test.YthbkomkgciemiaaGreatCF5
import Derived.Lib.QuietBelowIn
import Derived.Sort.QuietIn
import Derived.Deep.Matrix
import Derived.Deep.SlicePairs
import Derived.OpenShut
import Derived.OwnWalkIn
import Derived.Lib.SliceRun
import Derived.Sort.CutIn
import Derived.Sort.LotA
import Derived.Sort.LotB
import Derived.Sort.LotC
import Derived.Sort.LotD1
namespace Go.Proofs.YthbkomkgciemiaaGreat.RF
open Go Go.RowKit
variable {P : Program}
structure Bx (D : Nat → Prop) (h : Nat) (A B : World) : Prop where
  os : B.os = A.os
  tape : B.tape = A.tape
  output : B.output = A.output
  size : A.heap.size ≤ B.heap.size
  block : ∀ k, k < h → ¬ D k → B.heap[k]? = A.heap[k]?
variable {D : Nat → Prop}
theorem Bx.of {h : Nat} {A B : World} (x : Below h A B) : Bx D h A B := ⟨x.os, x.tape, x.output, x.size, fun k hk _ => x.block k hk⟩
theorem Bx.below {h : Nat} {A B : World} (x : Bx D h A B) (hD : ∀ k, k < h → ¬ D k) : Below h A B := ⟨x.os, x.tape, x.output, x.size, fun k hk => x.block k hk (hD k hk)⟩
theorem Bx.refl (h : Nat) (A : World) : Bx D h A A := ⟨rfl, rfl, rfl, Nat.le_refl _, fun _ _ _ => rfl⟩
theorem Bx.trans {h : Nat} {A B C : World} (x : Bx D h A B) (y : Bx D h B C) : Bx D h A C :=
  ⟨y.os.trans x.os, y.tape.trans x.tape, y.output.trans x.output, Nat.le_trans x.size y.size, fun k hk hd => (y.block k hk hd).trans (x.block k hk hd)⟩
theorem Bx.mono {h h' : Nat} {A B : World} (x : Bx D h A B) (hh : h' ≤ h) : Bx D h' A B := ⟨x.os, x.tape, x.output, x.size, fun k hk hd => x.block k (Nat.lt_of_lt_of_le hk hh) hd⟩
theorem Bx.set {h : Nat} {A B : World} (x : Bx D h A B) {p : Addr} (hp : h ≤ p.block ∨ D p.block) (v : Value) : Bx D h A (B.setCell p v) :=
  ⟨x.os, x.tape, x.output, by simpa using x.size, fun k hk hd => (Below.heap_setCell _ _ _ _ (fun e => hp.elim (fun hp => by omega) (fun hp => hd (by rw [e]; exact hp)))).trans (x.block k hk hd)⟩
def SeqD {α : Type} (D : Nat → Prop) (P : Program) (g : Nat) (lb : Array Value) (h n : Nat) (encs : α → Array Value) (xs : List α) (w : World) : Prop :=
  ∀ (l : Nat) (J Jx : List α → World → Prop) (W : World), Bx D n w W → Firm h n J → Firm h n Jx →
    (∀ pre x rest A, xs = pre ++ x :: rest → J pre A → YieldAt Fence.wide 0 P l (encs x) A fun e A' =>
       Bx D n A A' ∧ ((e = .returned (.bool true) ∧ J (pre ++ [x]) A') ∨ (e = .returned (.bool false) ∧ Jx (pre ++ [x]) A'))) →
    J [] W →
    CallsIn Fence.wide 0 P g (#[.func (.yield l) #[] #[]] ++ lb) W fun e W' => (∃ v, e = .returned v) ∧ Bx D h W W' ∧ (J xs W' ∨ ∃ pre, pre <+: xs ∧ Jx pre W')
def postD {β : Type} (D : Nat → Prop) (n r : Nat) (I : β → World → Prop) (Ix : Code → β → World → Prop) (s : β) (A : World) : Exit → Act → World → Prop
  | .normal, _, B => (Bx D n A B ∧ B.heap[r]? = A.heap[r]? ∧ B.heap[r + 1]? = A.heap[r + 1]?) ∧ I s B
  | .ret, _, B => (Bx D n A B ∧ B.heap[r]? = A.heap[r]? ∧ B.heap[r + 1]? = A.heap[r + 1]?) ∧ Ix .ret s B
  | .exit id, _, B => (Bx D n A B ∧ B.heap[r]? = A.heap[r]? ∧ B.heap[r + 1]? = A.heap[r + 1]?) ∧ Ix (.exit id) s B
  | .goto t, _, B => (Bx D n A B ∧ B.heap[r]? = A.heap[r]? ∧ B.heap[r + 1]? = A.heap[r + 1]?) ∧ Ix (.goto t) s B
  | _, _, _ => False
theorem wp_rangeD {α : Type} {g : Operand} {ps : Array Tmp} {assign body : Code} {Q : Exit → Act → World → Prop} {a : Act} {w : World}
    {gf : Nat} {lb : Array Value} (hg : a.eval g = .func (.func gf) #[] lb) (eg : ∀ args w, (callFunc gf args).run P w = .ok (.enter gf args) w)
    {h n : Nat} {encs : α → Array Value} {xs : List α} {w0 : World} (hseq : SeqD D P gf lb h n encs xs w0) (hb0 : Bx D n w0 w) (hn : n ≤ w.heap.size) (hh : h ≤ n)
    (hps : ∀ x, (encs x).size = ps.size)
    (I : List α → World → Prop) (Ix : Code → List α → World → Prop) (hI : FirmR h n w.heap.size I) (hIx : ∀ c, FirmR h n w.heap.size (Ix c)) (h0 : I [] w)
    (Ax : α → Act → World → Prop) (hAx : ∀ x a', FirmR h n w.heap.size (fun (_ : Unit) W => Ax x a' W))
    (hassign : ∀ (l : Nat) (pre : List α) (x : α) (rest : List α) (A : World) (K : Act → World → Prop), xs = pre ++ x :: rest → I pre A → w.heap.size + 2 ≤ A.heap.size → Bx D h w A →
      (∀ a' A', Below A.heap.size A A' → Ax x a' A' → K a' A') →
      assign.wpIn (Fence.wide.inRound l) 0 P (Exit.then K (fun _ _ _ => False)) { tmps := (ps.zip (encs x)).foldl (fun t (p, v) => t.setIfInBounds p v) a.tmps, defers := [] } A)
    (hbody : ∀ (l : Nat) (pre : List α) (x : α) (rest : List α) (a' : Act) (A : World), xs = pre ++ x :: rest → I pre A → Ax x a' A → w.heap.size + 2 ≤ A.heap.size → Bx D h w A →
      body.wpIn (Fence.wide.inRound l) 0 P (postD D n w.heap.size I Ix (pre ++ [x]) A) a' A)
    (hdone : ∀ (W : World), I xs W → Bx D h w W → W.heap[w.heap.size]? = some (.deferred (some [])) → Q .normal { a with defers := { target := .collected w.heap.size, args := #[] } :: a.defers } W)
    (hstop : ∀ (c : Code) (pre : List α) (W : World), pre <+: xs → Ix c pre W → Bx D h w W → W.heap[w.heap.size]? = some (.deferred (some [])) →
      c.wpIn Fence.wide 0 P Q { a with defers := { target := .collected w.heap.size, args := #[] } :: a.defers } W) :
    (Code.rangeFunc g ps assign body).wpIn Fence.wide 0 P Q a w := by
  have hIP : ∀ {s : List α} {A : World} (l : Nat) (o : Obj), (l = w.heap.size ∨ l = w.heap.size + 1) → I s A → I s (A.putObj l o) := fun l o hl hs =>
    hI _ _ _ hs ⟨putObj_below _ _ (by omega), fun k _ _ h1 h2 => World.putObj_heap_other (by omega)⟩
  have hIxP : ∀ {c : Code} {s : List α} {A : World} (l : Nat) (o : Obj), (l = w.heap.size ∨ l = w.heap.size + 1) → Ix c s A → Ix c s (A.putObj l o) := fun l o hl hs =>
    hIx _ _ _ _ hs ⟨putObj_below _ _ (by omega), fun k _ _ h1 h2 => World.putObj_heap_other (by omega)⟩
  have hAxP : ∀ {x : α} {a' : Act} {A : World} (l : Nat) (o : Obj), (l = w.heap.size ∨ l = w.heap.size + 1) → Ax x a' A → Ax x a' (A.putObj l o) := fun l o hl hs =>
    hAx _ _ () _ _ hs ⟨putObj_below _ _ (by omega), fun k _ _ h1 h2 => World.putObj_heap_other (by omega)⟩
  refine wpIn_rangeFunc ?_
  intro fn hfn
  rw [show Fence.wide.round = none from rfl]
  obtain ⟨rec, hrec⟩ : ∃ rec : LoopState → Option Code → Loop, rec = fun st pe => { state := st, pending := pe, fn, tmps := a.tmps, params := ps, assign, body, defers := w.heap.size } := ⟨_, rfl⟩
  obtain ⟨W1, hW1⟩ : ∃ W1, (w.alloc (.deferred (some []))).alloc (.loop (rec .ready none)) = W1 := ⟨_, rfl⟩
  have hL1 : W1.heap[w.heap.size + 1]? = some (.loop (rec .ready none)) := by
    rw [← hW1]; have := World.alloc_heap_new (w.alloc (.deferred (some []))) (.loop (rec .ready none)); rwa [World.size_alloc] at this
  have hK1 : W1.heap[w.heap.size]? = some (.deferred (some [])) := by
    rw [← hW1]; exact (Below.heap_alloc _ _ _ (by simp)).trans (World.alloc_heap_new w _)
  have hwW : Below w.heap.size w W1 := by rw [← hW1]; exact ((Below.refl _ w).alloc (Nat.le_refl _) _).alloc (by simp) _
  have hI1 : I [] W1 := hI _ _ _ h0 ⟨hwW.mono (by omega), fun k _ hk _ _ => hwW.block k hk⟩
  refine ⟨w.heap.size + 1, [{ target := .collected w.heap.size, args := #[] }], W1, { target := .fn (.func gf) lb, args := #[.func (.yield (w.heap.size + 1)) #[] #[]] }, W1, gf,
    #[.func (.yield (w.heap.size + 1)) #[] #[]] ++ lb, W1, ?_, ?_, ?_, ?_, fun hd => by simp [Fence.wide] at hd, ?_⟩
  · rw [← hW1, hrec]; exact run_enterLoop_outer _ _ _ _ _
  · simp only [resolve, hg]
    simp [go_sem]
  · intro f' hf'; trivial
  · simp [invoke, go_sem, eg]
  · refine (hseq (w.heap.size + 1)
      (fun pre W => I pre W ∧ W.heap[w.heap.size + 1]? = some (.loop (rec .ready none)) ∧ W.heap[w.heap.size]? = some (.deferred (some [])) ∧ Bx D h w W)
      (fun pre W => ∃ c, Ix c pre W ∧ W.heap[w.heap.size + 1]? = some (.loop (rec .done (some c))) ∧ W.heap[w.heap.size]? = some (.deferred (some [])) ∧ Bx D h w W)
      W1 (hb0.trans (Bx.of (hwW.mono hn))) ?_ ?_ ?_ ⟨hI1, hL1, hK1, Bx.of (hwW.mono (by omega))⟩).mono ?_
    · rintro s A B ⟨h1, h2, h3, h4⟩ ⟨hb, hm⟩
      exact ⟨hI _ _ _ h1 ⟨hb, fun k hk hl _ _ => hm k hk hl⟩, (hm _ (by omega) (Array.getElem?_eq_some_iff.1 h2).1).trans h2, (hm _ (by omega) (Array.getElem?_eq_some_iff.1 h3).1).trans h3, h4.trans (Bx.of hb)⟩
    · rintro s A B ⟨c, h1, h2, h3, h4⟩ ⟨hb, hm⟩
      exact ⟨c, hIx _ _ _ _ h1 ⟨hb, fun k hk hl _ _ => hm k hk hl⟩, (hm _ (by omega) (Array.getElem?_eq_some_iff.1 h2).1).trans h2, (hm _ (by omega) (Array.getElem?_eq_some_iff.1 h3).1).trans h3, h4.trans (Bx.of hb)⟩
    · rintro pre x rest A hxs ⟨hi, hl, hk, hb⟩
      have hlt : w.heap.size + 1 < A.heap.size := (Array.getElem?_eq_some_iff.1 hl).1
      have hy := run_yield (P := P) (args := encs x) hl (by rw [hrec]; exact hps x)
      rw [hrec] at hy
      refine ⟨fn, _, assign, body, hy, roundIn_of_wpIn hfn (hassign _ pre x rest A _ hxs hi (by omega) hb ?_)⟩
      clear hy
      intro a' A' hba hax
      have hlA : A'.heap[w.heap.size + 1]? = some (.loop (rec .ready none)) := (hba.block _ hlt).trans hl
      have hkA : A'.heap[w.heap.size]? = some (.deferred (some [])) := (hba.block _ (by omega)).trans hk
      have hiA : I pre A' := hI _ _ _ hi ⟨hba.mono (by omega), fun k _ hk _ _ => hba.block k hk⟩
      have hltA : w.heap.size + 1 < A'.heap.size := (Array.getElem?_eq_some_iff.1 hlA).1
      refine ⟨_, run_beginRound hlA (by rw [hrec]), ?_⟩
      have hl2 : (A'.putObj (w.heap.size + 1) (.loop { rec .ready none with state := .busy })).heap[w.heap.size + 1]? = some (.loop { rec .ready none with state := .busy }) := World.putObj_heap_same hltA
      have hk2 : (A'.putObj (w.heap.size + 1) (.loop { rec .ready none with state := .busy })).heap[w.heap.size]? = some (.deferred (some [])) := (World.putObj_heap_other (by omega)).trans hkA
      have hbA : Below n A (A'.putObj (w.heap.size + 1) (.loop { rec .ready none with state := .busy })) := (hba.mono (by omega)).trans (putObj_below _ _ (by omega))
      refine wpIn_mono (hbody _ pre x rest a' _ hxs (hIP _ _ (.inr rfl) hiA) (hAxP _ _ (.inr rfl) hax) (by simp; omega) (hb.trans (Bx.of (hbA.mono hh)))) ?_
      have fin : ∀ (jump : Option Code) (W3 : World), (Bx D n (A'.putObj (w.heap.size + 1) (.loop { rec .ready none with state := .busy })) W3 ∧ W3.heap[w.heap.size]? = (A'.putObj (w.heap.size + 1) (.loop { rec .ready none with state := .busy })).heap[w.heap.size]? ∧ W3.heap[w.heap.size + 1]? = (A'.putObj (w.heap.size + 1) (.loop { rec .ready none with state := .busy })).heap[w.heap.size + 1]?) →
          (Instr.endRound (w.heap.size + 1) jump).run P W3 = .ok (.bool jump.isNone) (W3.putObj (w.heap.size + 1) (.loop (rec (if jump.isNone then .ready else .done) jump))) ∧
          Bx D n A (W3.putObj (w.heap.size + 1) (.loop (rec (if jump.isNone then .ready else .done) jump))) ∧
          (W3.putObj (w.heap.size + 1) (.loop (rec (if jump.isNone then .ready else .done) jump))).heap[w.heap.size + 1]? = some (.loop (rec (if jump.isNone then .ready else .done) jump)) ∧
          (W3.putObj (w.heap.size + 1) (.loop (rec (if jump.isNone then .ready else .done) jump))).heap[w.heap.size]? = some (.deferred (some [])) := fun jump W3 hk3 => by
        obtain ⟨hb3, hr3, hl3'⟩ := hk3
        have hl3 := hl3'.trans hl2
        have := run_endRound (P := P) jump hl3
        rw [hrec] at this ⊢
        exact ⟨this, ((Bx.of hbA).trans hb3).trans (Bx.of (putObj_below _ _ (by omega))), World.putObj_heap_same (Array.getElem?_eq_some_iff.1 hl3).1, (World.putObj_heap_other (by omega)).trans (hr3.trans hk2)⟩
      rintro e a3 W3 hp
      cases e with
      | normal =>
        obtain ⟨hk3, hi3⟩ := hp
        obtain ⟨hr, hb4, hl4, hk4⟩ := fin none W3 hk3
        exact ⟨_, _, hr, hb4, .inl ⟨rfl, hIP _ _ (.inr rfl) hi3, hl4, hk4, hb.trans (hb4.mono hh)⟩⟩
      | ret =>
        obtain ⟨hk3, hi3⟩ := hp
        obtain ⟨hr, hb4, hl4, hk4⟩ := fin (some .ret) W3 hk3
        exact ⟨_, _, hr, hb4, .inr ⟨rfl, .ret, hIxP _ _ (.inr rfl) hi3, hl4, hk4, hb.trans (hb4.mono hh)⟩⟩
      | exit id =>
        obtain ⟨hk3, hi3⟩ := hp
        obtain ⟨hr, hb4, hl4, hk4⟩ := fin (some (.exit id)) W3 hk3
        exact ⟨_, _, hr, hb4, .inr ⟨rfl, .exit id, hIxP _ _ (.inr rfl) hi3, hl4, hk4, hb.trans (hb4.mono hh)⟩⟩
      | goto t =>
        obtain ⟨hk3, hi3⟩ := hp
        obtain ⟨hr, hb4, hl4, hk4⟩ := fin (some (.goto t)) W3 hk3
        exact ⟨_, _, hr, hb4, .inr ⟨rfl, .goto t, hIxP _ _ (.inr rfl) hi3, hl4, hk4, hb.trans (hb4.mono hh)⟩⟩
      | panic ch => exact hp.elim
      | outgrown => exact hp.elim
    · rintro e W2 ⟨⟨v, rfl⟩, hbW, (⟨hi, hl, hk, hb⟩ | ⟨pre, hpre, c, hi, hl, hk, hb⟩)⟩
      · exact ⟨none, _, by have := run_endLoop (P := P) hl (by rw [hrec]; simp); rw [hrec] at this; exact this, hdone _ (hIP _ _ (.inr rfl) hi) (hb.trans (Bx.of (putObj_below _ _ (by omega)))) ((World.putObj_heap_other (by omega)).trans hk)⟩
      · exact ⟨some c, _, by have := run_endLoop (P := P) hl (by rw [hrec]; simp); rw [hrec] at this; exact this, hstop c pre _ hpre (hIxP _ _ (.inr rfl) hi) (hb.trans (Bx.of (putObj_below _ _ (by omega)))) ((World.putObj_heap_other (by omega)).trans hk)⟩
end Go.Proofs.YthbkomkgciemiaaGreat.RF
namespace Go.Proofs.YthbkomkgciemiaaGreat.PKF
open Go.Proofs.YthbkomkgciemiaaGreat.RF
open Go.RowKit Go.Proofs.YthbkomkgciemiaaGreatW.PrintWords Go.Proofs.YthbkomkgciemiaaGreatW.PrintLast Go.Proofs.YthbkomkgciemiaaGreatW.PrintMore
attribute [local go_sem] max2_int min2_int max_two min_two max_three min_three max_four min_four
set_option linter.unusedVariables false
set_option linter.unusedSimpArgs false
open Go.RowKit
open Go.Sort (grow)
attribute [local go_sem] Oper.semAt_some
def nextV (ks : List Int) (g : List Hd) (a : Int) : Int := minF (orderF ks) (rd_T61 g a).f1
def cntL (ks : List Int) (a : Int) : Nat := (ks.filter fun x => decide (x < rd ks a)).length
theorem cntL_lt (ks : List Int) (a b : Int) (h0 : 0 ≤ b) (h1 : b < ks.length) (h : rd ks b < rd ks a) : cntL ks b < cntL ks a := by
  have hm : rd ks b ∈ ks := rd_mem h0 h1
  unfold cntL
  have hs : (ks.filter fun x => decide (x < rd ks b)) = (ks.filter fun x => decide (x < rd ks a)).filter fun x => decide (x < rd ks b) := by
    rw [List.filter_filter]
    congr 1
    funext x
    simp only [← Bool.decide_and]
    congr 1
    apply propext
    omega
  rw [hs]
  refine List.length_filter_lt_length_iff_exists.2 ⟨rd ks b, ?_, by simp⟩
  simp [hm, h]
def walkV (ks : List Int) (g : List Hd) (a : Int) : List Int :=
  a :: (if _h : rd ks (nextV ks g a) < rd ks a ∧ 0 ≤ nextV ks g a ∧ nextV ks g a < ks.length then walkV ks g (nextV ks g a) else [])
  termination_by cntL ks a
  decreasing_by exact cntL_lt ks a _ _h.2.1 _h.2.2 _h.1
def GoodG (n : Nat) (g : List Hd) : Prop := g.length = n ∧ ∀ h ∈ g, 1 ≤ h.f1.length ∧ h.f1.length ≤ n ∧ ∀ s ∈ h.f1, 0 ≤ s ∧ s < (n : Int)
theorem rd_T_mem {g : List Hd} {i : Int} (h0 : 0 ≤ i) (h1 : i < g.length) : rd_T61 g i ∈ g := by
  unfold rd_T61
  have : i.toNat < g.length := by omega
  simp [this]
theorem nextV_in {n : Nat} {ks : List Int} {g : List Hd} (hg : GoodG n g) (hk : ks.length = n) (a : Int) (h0 : 0 ≤ a) (h1 : a < n) : 0 ≤ nextV ks g a ∧ nextV ks g a < n := by
  have hm := rd_T_mem h0 (show a < g.length by rw [hg.1]; exact h1)
  obtain ⟨h2, _, h3⟩ := hg.2 _ hm
  exact h3 _ (minF_mem _ _ h2)
def curOf (B : Nat) (w : World) : Int := match w.cell? ⟨B, 0, none⟩ with
  | some (.int _ a) => a
  | _ => 0
theorem curOf_blk {B : Nat} {w : World} {a : Int} {t : TypeId} (h : w.heap[B]? = some (.cells #[.int .i64 a] t (0, 0))) : curOf B w = a := by
  unfold curOf
  rw [cell_of_blk h]
theorem walkV_go {ks : List Int} {g : List Hd} {a : Int} (h : rd ks (nextV ks g a) < rd ks a) (h1 : 0 ≤ nextV ks g a ∧ nextV ks g a < ks.length) : walkV ks g a = a :: walkV ks g (nextV ks g a) := by
  rw [walkV, dif_pos ⟨h, h1⟩]
theorem walkV_end {ks : List Int} {g : List Hd} {a : Int} (h : rd ks a ≤ rd ks (nextV ks g a)) : walkV ks g a = [a] := by
  rw [walkV, dif_neg (by omega)]
theorem walkV_cons (ks : List Int) (g : List Hd) (a : Int) : ∃ r, walkV ks g a = a :: r := ⟨_, by rw [walkV]⟩
set_option maxHeartbeats 1000000 in
set_option maxRecDepth 100000 in
theorem walk_seqD (D : Nat → Prop) (m : Int) (A1 : Option Addr) (n1 c1 : Nat) (A2 : Option Addr) (c2 : Nat) (g : List Hd) (A4 : Option Addr) (c4 : Nat) (ks : List Int) (from_ : Int) (B B1 : Nat) (w : World)
    (hB : w.heap[B]? = some (.cells #[.int .i64 m, .slice A1 n1 c1, .slice A2 g.length c2, .slice A4 ks.length c4] 65 (0, 0))) (hB1 : w.heap[B1]? = some (.cells #[.int .i64 from_] 3 (0, 0))) (hlt : B < B1) (hsz : w.heap.size = B1 + 1) (hDB : ¬ D B) (hDB1 : ¬ D B1)
    (hg : ∀ W, Bx D B1 w W → Kd.C k61 W A2 g.length g) (hk : ∀ W, Bx D B1 w W → Kd.C (Kd.int .i64) W A4 ks.length ks) (hv : GoodG ks.length g) (h0 : 0 ≤ from_) (h1 : from_ < ks.length) :
    SeqD D Tryz.prog 57 #[.pointer (some ⟨B1, 0, none⟩), .pointer (some ⟨B, 0, none⟩)] B1 (B1 + 1) encI (walkV ks g from_) w := by
  intro l J Jx W hW hJ hJx hY h00
  have hu := Tryz.underlying65
  have hu2 := Tryz.underlying61
  have hu3 := Tryz.underlying25
  have HB1 := Aside0.mk ((hW.block B1 (by omega) hDB1).trans hB1)
  have HB := Aside0.mk hB
  have HG := Aside0.mk hg
  have HK := Aside0.mk hk
  have HV := Aside0.mk hv
  have HW := Aside0.mk (hW.mono (show B1 ≤ B1 + 1 by omega))
  have HJ := Aside0.mk hJ
  have HJx := Aside0.mk hJx
  have HY := Aside0.mk hY
  have hWs : B1 + 1 ≤ W.heap.size := by have := hW.size; omega
  clear hB hB1 hg hk hv hW hJ hJx hY
  refine callsIn_of_wp Tryz.func57 rfl trivial ?_ rfl
  simp only [Tryz.ntmps57, List.size_toArray, List.length_cons, List.length_nil, Nat.reduceAdd, Nat.reduceSub, Array.replicate_succ, Array.replicate_zero, List.push_toArray, List.append_toArray, List.nil_append, List.cons_append]
  gi_wp2
  gi_loopw [4] (fun _ wr => ∃ (pre : List Int) (a : Int), 0 ≤ a ∧ a < ks.length ∧ Aside0 (pre ++ walkV ks g a = walkV ks g from_) ∧ Aside0 (wr.heap[B1]? = some (.cells #[.int .i64 a] 3 (0, 0))) ∧ Aside0 (J pre wr) ∧ Aside0 (Bx D B1 W wr)) (fun _ wr => cntL ks (curOf B1 wr))
  case atStart => exact ⟨[], from_, h0, h1, ⟨rfl⟩, HB1, ⟨h00⟩, ⟨Bx.refl _ _⟩⟩
  case round =>
    obtain ⟨pre, a, ha0, ha1, HE, HF, HJa, HBw⟩ := hrel
    clear h00
    obtain ⟨rst, hrst⟩ := walkV_cons ks g a
    obtain ⟨fn, tmps, assign, body, hy, hR⟩ := HY.out pre a rst wr (by rw [← HE.out, hrst]) HJa.out
    simp only [encI] at hy
    have HR := Aside0.mk hR
    have hc := cell_of_blk HF.out
    have hsr : B1 + 1 ≤ wr.heap.size := by have := HBw.out.size; omega
    clear hR hrst
    gi_wp2
    refine ⟨rfl, HR.out.mono ?_⟩
    rintro e W' ⟨hbB, ⟨rfl, hJ'⟩ | ⟨rfl, hJx'⟩⟩
    · have HJ2 := Aside0.mk hJ'
      have HB2 := Aside0.mk (HBw.out.trans (hbB.mono (by omega)))
      have HF2 := Aside0.mk ((hbB.block B1 (by omega) hDB1).trans HF.out)
      have hs2 : B1 + 1 ≤ W'.heap.size := by have := hbB.size; omega
      clear hJ' hbB hy hc HR
      have HBS := Aside0.mk (((HW.out.trans HB2.out).block B hlt hDB).trans HB.out)
      obtain ⟨ad, A1', c1', hA, q0, q1, hl1, hC1⟩ := at_T61 (HG.out _ (HW.out.trans HB2.out)) a ha0 (by rw [HV.out.1]; exact ha1)
      subst hA
      have hcf := cell_of_blk HF2.out
      have hk0 : W'.cell? ⟨B, 0, none⟩ = some (.int .i64 m) := by simp [World.cell?, HBS.out]
      have hk1 : W'.cell? ⟨B, 1, none⟩ = some (.slice A1 n1 c1) := by simp [World.cell?, HBS.out]
      have hk2 : W'.cell? ⟨B, 2, none⟩ = some (.slice (some ad) g.length c2) := by simp [World.cell?, HBS.out]
      have hk3 : W'.cell? ⟨B, 3, none⟩ = some (.slice A4 ks.length c4) := by simp [World.cell?, HBS.out]
      obtain ⟨hs1, _, hin⟩ := HV.out.2 _ (rd_T_mem ha0 (by rw [HV.out.1]; exact ha1))
      have hks := HK.out _ (HW.out.trans HB2.out)
      have hM := minC (searchV m A1 n1 c1 (some ad) g.length c2 A4 ks.length c4) ks.length (orderF ks) A1' c1' (rd_T61 g a).f1
      have cM : ∀ d os, CallsIn Fence.wide 0 Tryz.prog 58 #[.slice A1' (rd_T61 g a).f1.length c1', .func (.func 37) #[searchV m A1 n1 c1 (some ad) g.length c2 A4 ks.length c4] #[]] (grow (redrawn W' d) os) fun e w'' => e = .returned (.int .i64 (nextV ks g a)) ∧ ∃ p : Regrown, w'' = grow (redrawn W' p.d) p.os := fun d os => CallsIn.regrown_of (callsIn_wide.2 (hM _ (fun W2 hW2 x y hx hy => orderC m A1 n1 c1 (some ad) g.length c2 A4 c4 ks x y W2 (Kd.C_below hks ((below_regrown W' d os).trans (hW2.mono (below_regrown W' d os).size))) hx hy) (Kd.C_below hC1 (below_regrown W' d os)) hs1 hin))
      have k0 := cell_regrown hk0
      have k1 := cell_regrown hk1
      have k2 := cell_regrown hk2
      have k3 := cell_regrown hk3
      have k4 := cell_regrown hcf
      have k6 := cell_regrown q1
      have hgl : a < (g.length : Int) := by rw [HV.out.1]; exact ha1
      obtain ⟨hx0, hx1⟩ := nextV_in HV.out rfl a ha0 ha1
      have HKS := Aside0.mk hks
      clear hks hC1 hM q0 hin
      unfold searchV at cM
      gi_wp2
      refine wpIn_region_quiet_below rfl (by kernel_rfl) (by kernel_rfl) ?_
      repeat (refine wpQuietIn_step (fun _ _ _ _ => trivial) (fun K hK => ?_); go_simp; first | (refine hK _ ?_; clear hK K) | (apply Exists.intro; refine ⟨fun _ => ?_, hK _ ?_⟩; (exact ⟨rfl, cM _ _⟩); clear hK K))
      refine wpQuietIn_nil ?_
      intro _ hw'
      obtain ⟨⟨dq, osq⟩, hw''⟩ := hw'
      subst hw''
      have hb3 := below_regrown W' dq osq
      generalize grow (redrawn W' dq) osq = W2 at hb3 ⊢
      clear k0 k1 k2 k3 k4 k6 cM hk0 hk1 hk2 hk3 q1
      have hs3 : B1 + 1 ≤ W2.heap.size := by have := hb3.size; omega
      have HBS2 := Aside0.mk (blk_below HBS.out hb3)
      have HF3 := Aside0.mk (blk_below HF2.out hb3)
      have HB3 := Aside0.mk (HB2.out.trans (Bx.of (hb3.mono (by omega))))
      have HJ3 := Aside0.mk (HJ.out _ _ _ HJ2.out (Stir.of_below hb3 (by omega)))
      have hk3 : W2.cell? ⟨B, 3, none⟩ = some (.slice A4 ks.length c4) := by simp [World.cell?, HBS2.out]
      have hcf2 := cell_of_blk HF3.out
      have hff2 := frozen_of_blk HF3.out
      obtain ⟨ak, hAk, hka⟩ := Kd.at_int (Kd.C_below HKS.out hb3) a ha0 ha1
      subst hAk
      obtain ⟨ak', hAk', hkb⟩ := Kd.at_int (Kd.C_below HKS.out hb3) (nextV ks g a) hx0 hx1
      cases hAk'
      clear hb3
      by_cases hle : rd ks a ≤ rd ks (nextV ks g a)
      · have HE2 := Aside0.mk (show pre ++ [a] = walkV ks g from_ by rw [← HE.out, walkV_end hle])
        generalize nextV ks g a = nx at hle hkb hx0 hx1 ⊢
        gi_wp2
        gi_quiet (fail)
        gi_wp2
        refine bodyPost_ret (results_none rfl _ _ _) rfl ?_
        have hdn : Below W2.heap.size W2 (W2.drewN nq) := pw_below_drewN (Below.refl _ _) nq
        refine ⟨⟨_, rfl⟩, HB3.out.trans (Bx.of (hdn.mono (by omega))), .inl ?_⟩
        rw [← HE2.out]
        exact HJ.out _ _ _ HJ3.out (Stir.of_below hdn (by omega))
      · have HE2 := Aside0.mk (show (pre ++ [a]) ++ walkV ks g (nextV ks g a) = walkV ks g from_ by rw [← HE.out, walkV_go (by omega) ⟨hx0, hx1⟩]; simp)
        have hlt2 : rd ks (nextV ks g a) < rd ks a := by omega
        have HM := Aside0.mk (cntL_lt ks a _ hx0 hx1 hlt2)
        generalize nextV ks g a = nx at hlt2 hle hkb hx0 hx1 HE2 HM ⊢
        gi_wp2
        gi_quiet (fail)
        gi_wp2
        have hdn : Below W2.heap.size W2 (W2.drewN nq) := pw_below_drewN (Below.refl _ _) nq
        have hF4 := blk_put (blk_below HF3.out hdn) 0 (.int .i64 nx) rfl
        have hJ4 := HJ.out _ _ _ (HJ.out _ _ _ HJ3.out (Stir.of_below hdn (by omega))) (Stir.set (p := ⟨B1, 0, none⟩) (by simp) (by simp) (.int .i64 nx))
        have hB4 := (HB3.out.trans (Bx.of (hdn.mono (show B1 ≤ W2.heap.size by omega)))).set (p := ⟨B1, 0, none⟩) (.inl (by simp)) (.int .i64 nx)
        refine ⟨⟨pre ++ [a], nx, hx0, hx1, HE2, ⟨hF4⟩, ⟨hJ4⟩, ⟨hB4⟩⟩, ?_⟩
        rw [curOf_blk HF.out, curOf_blk (a := nx) hF4]
        exact HM.out
    · have HB3 := Aside0.mk (HBw.out.trans (hbB.mono (by omega)))
      have HJ3 := Aside0.mk hJx'
      clear hbB hJx' hy hc HR
      gi_wp2
      go_end0
      refine ⟨⟨_, rfl⟩, HB3.out, .inr ⟨_, ?_, HJ3.out⟩⟩
      rw [← HE.out]
      obtain ⟨r, hr⟩ := walkV_cons ks g a
      rw [hr]
      exact ⟨r, by simp⟩
theorem walk_seq (m : Int) (A1 : Option Addr) (n1 c1 : Nat) (A2 : Option Addr) (c2 : Nat) (g : List Hd) (A4 : Option Addr) (c4 : Nat) (ks : List Int) (from_ : Int) (B B1 : Nat) (w : World)
    (hB : w.heap[B]? = some (.cells #[.int .i64 m, .slice A1 n1 c1, .slice A2 g.length c2, .slice A4 ks.length c4] 65 (0, 0))) (hB1 : w.heap[B1]? = some (.cells #[.int .i64 from_] 3 (0, 0))) (hlt : B < B1) (hsz : w.heap.size = B1 + 1)
    (hg : ∀ W, Below B1 w W → Kd.C k61 W A2 g.length g) (hk : ∀ W, Below B1 w W → Kd.C (Kd.int .i64) W A4 ks.length ks) (hv : GoodG ks.length g) (h0 : 0 ≤ from_) (h1 : from_ < ks.length) :
    SeqC Tryz.prog 57 #[.pointer (some ⟨B1, 0, none⟩), .pointer (some ⟨B, 0, none⟩)] B1 (B1 + 1) encI (walkV ks g from_) w := by
  have h := walk_seqD (fun _ => False) m A1 n1 c1 A2 c2 g A4 c4 ks from_ B B1 w hB hB1 hlt hsz id id (fun W hW => hg W (hW.below fun _ _ => id)) (fun W hW => hk W (hW.below fun _ _ => id)) hv h0 h1
  intro l J Jx W hW hJ hJx hY h00
  refine (h l J Jx W (Bx.of hW) hJ hJx (fun pre x rest A e hA => ?_) h00).mono fun e W' ⟨h1, h2, h3⟩ => ⟨h1, h2.below fun _ _ => id, h3⟩
  obtain ⟨fn, tmps, assign, body, hy, hR⟩ := hY pre x rest A e hA
  exact ⟨fn, tmps, assign, body, hy, hR.mono fun e W ⟨h1, h2⟩ => ⟨Bx.of h1, h2⟩⟩
set_option maxHeartbeats 400000 in
set_option maxRecDepth 100000 in
theorem walkC (recv : Value) (from_ : Int) (w : World) (cs : Array Value) (hr : recv = .agg cs) (hsz : cs.size = 4) :
    Calls Tryz.prog 32 #[recv, .int .i64 from_] w fun e w' => e = .returned (.func (.func 57) #[] #[.pointer (some ⟨w.heap.size + 1, 0, none⟩), .pointer (some ⟨w.heap.size, 0, none⟩)]) ∧ w' = (w.alloc (.cells cs 65)).alloc (.cells #[.int .i64 from_] 3) := by
  subst hr
  have hu := Tryz.underlying65
  obtain ⟨a, b, c, d, rfl⟩ : ∃ a b c d, cs = #[a, b, c, d] := by
    obtain ⟨l⟩ := cs
    match l, hsz with
    | [a, b, c, d], _ => exact ⟨a, b, c, d, rfl⟩
  go_enter Tryz.func32, Tryz.ntmps32
  go_wp2
  go_ret
  exact ⟨rfl, rfl⟩
structure BegOk (m : Int) (l : List (List Int)) (g : List Hd) (v : List Int) (from_ : Int) : Prop where
  right : rightF m l = true
  valid : ValidAt l.length g true
  good : GoodG l.length g
  one : 1 ≤ l.length
  few : l.length ≤ 4096
  alike : alikeF (rdL l 0) v = true
  h0 : 0 ≤ from_
  h1 : from_ < l.length
theorem walkV_le (ks : List Int) (g : List Hd) : ∀ (n : Nat) (a : Int), cntL ks a ≤ n → (walkV ks g a).length ≤ n + 1
  | 0, a, h => by
    rw [walkV]
    split
    · rename_i hh; have := cntL_lt ks a _ hh.2.1 hh.2.2 hh.1; omega
    · simp
  | n + 1, a, h => by
    rw [walkV]
    split
    · rename_i hh
      have := cntL_lt ks a _ hh.2.1 hh.2.2 hh.1
      have := walkV_le ks g n (nextV ks g a) (by omega)
      simp; omega
    · simp
theorem walkV_len (ks : List Int) (g : List Hd) (a : Int) : (walkV ks g a).length ≤ ks.length + 1 :=
  walkV_le ks g ks.length a (List.length_filter_le _ _)
set_option maxHeartbeats 1000000 in
set_option maxRecDepth 100000 in
theorem walkOkC (m : Int) (A1 : Option Addr) (c1 : Nat) (l : List (List Int)) (A2 : Option Addr) (c2 : Nat) (g : List Hd) (A3 : Option Addr) (c3 : Nat) (v : List Int) (from_ : Int) (w : World) (hr1 : Kd.C (Kd.slice 3 (Kd.int .i64)) w A1 l.length l) (hc1 : l.length ≤ c1) (hr2 : Kd.C k61 w A2 g.length g) (hc2 : g.length ≤ c2) (hr3 : Kd.C (Kd.int .i64) w A3 v.length v) (hc3 : v.length ≤ c3) (hok : BegOk m l g v from_) :
    Calls Tryz.prog 9 #[.int .i64 m, .slice A1 l.length c1, .agg #[.slice A2 g.length c2], .slice A3 v.length c3, .int .i64 from_] w fun e w' => ∃ v0 : Value, e = .returned (.tuple #[v0, .int .i64 0]) ∧ Kd.R (Kd.int .i64) 3 w' w.heap.size (fun _ => True) v0 (walkV (keysV m l v) g from_) ∧ Below w.heap.size w w' := by
  have hu := Tryz.underlying65
  have hu3 := Tryz.underlying25
  have HBg := Aside0.mk (fun W (hW : Below w.heap.size w W) => beginYes m A1 c1 l A2 c2 g A3 c3 v from_ W (Kd.C_below hr1 hW) hc1 (Kd.C_below hr2 hW) hc2 (Kd.C_below hr3 hW) hc3 hok.right hok.valid hok.one hok.alike hok.h0 hok.h1)
  have HG := Aside0.mk hr2
  have HK := Aside0.mk hok
  have hkl := keysV_length m l v
  clear hr1 hr2 hr3
  generalize hks : keysV m l v = ks at HBg hkl ⊢
  have hok2 : GoodG ks.length g := by rw [hkl]; exact hok.good
  have h0 := hok.h0
  have h1 : from_ < ks.length := by rw [hkl]; exact hok.h1
  have hfew : ks.length ≤ 4096 := by rw [hkl]; exact hok.few
  have HV := Aside0.mk hok2
  clear hks hok hok2 hkl HK
  go_enter Tryz.func9, Tryz.ntmps9
  go_wp2_with fail
  refine (HBg.out _ (below_alloc (Below.refl _ w) _)).mono ?_
  rintro e w1 ⟨A4, c4, rfl, hR, hb⟩
  have hsz := hb.size
  simp only [World.size_alloc] at hsz hR
  have HR := Aside0.mk (Kd.R_reads' hR).2.2
  have HB := Aside0.mk (below_step (below_alloc (Below.refl _ w) _) hb)
  clear hb hR HBg
  unfold searchV
  go_wp2_with fail
  refine (walkC _ from_ _ _ rfl rfl).mono ?_
  rintro e w2 ⟨rfl, hw2⟩
  simp only [World.size_alloc] at hw2 ⊢
  have hsz2 : w2.heap.size = (w1.heap.size + 1 + 1) + 1 := by rw [hw2]; simp
  have hb2 : Below w1.heap.size w1 w2 := by rw [hw2]; exact below_alloc (below_alloc (below_alloc (Below.refl _ w1) _) _) _
  have hq0 : w2.heap[w1.heap.size + 1]? = some (.cells #[.int .i64 m, .slice A1 l.length c1, .slice A2 g.length c2, .slice A4 ks.length c4] 65 (0, 0)) := by
    rw [hw2]
    have := blk_alloc (blk_new (w1.alloc (.cells #[.int .i64 m, .slice A1 l.length c1, .slice A2 g.length c2, .slice A4 ks.length c4] 65)) (.cells #[.int .i64 m, .slice A1 l.length c1, .slice A2 g.length c2, .slice A4 ks.length c4] 65)) (.cells #[.int .i64 from_] 3)
    simpa using this
  have hq1 : w2.heap[w1.heap.size + 1 + 1]? = some (.cells #[.int .i64 from_] 3 (0, 0)) := by
    rw [hw2]
    have := blk_new ((w1.alloc (.cells #[.int .i64 m, .slice A1 l.length c1, .slice A2 g.length c2, .slice A4 ks.length c4] 65)).alloc (.cells #[.int .i64 m, .slice A1 l.length c1, .slice A2 g.length c2, .slice A4 ks.length c4] 65)) (.cells #[.int .i64 from_] 3)
    simpa using this
  have hseq := walk_seq m A1 l.length c1 A2 c2 g A4 c4 ks from_ (w1.heap.size + 1) (w1.heap.size + 1 + 1) w2 hq0 hq1 (by omega) hsz2
    (fun W hW => Kd.C_below HG.out (HB.out.trans ((hb2.trans (hW.mono (by omega))).mono (by omega))))
    (fun W hW => Kd.C_below HR.out (hb2.trans (hW.mono (by omega)))) HV.out h0 h1
  rw [← hsz2] at hseq
  have hlen := walkV_len ks g from_
  have HS := Aside0.mk (collectC _ _ (enters_of Tryz.func57 (by kernel_rfl) rfl) _ _ _ _ hseq (Below.refl _ _) (by omega) (by omega))
  have HB2 := Aside0.mk (HB.out.trans (hb2.mono (by omega)))
  clear hseq hq0 hq1 hw2 hb2
  go_wp2_with fail
  refine HS.out.mono ?_
  rintro e w3 ⟨v0, rfl, ho, hb3⟩
  have HR3 := Aside0.mk (Kd.R_lower (Kd.R_of_own (enc := Value.int .i64) (h1 := fun _ => rfl) ho (ok := fun _ => True) (fun _ _ => trivial)) (show w.heap.size ≤ w2.heap.size by omega))
  have HB3 := Aside0.mk (HB2.out.trans (hb3.mono (by omega)))
  clear ho hb3 HS
  go_wp2
  go_ret2
  exact ⟨_, rfl, HR3.out, HB3.out⟩
set_option maxHeartbeats 400000 in
set_option maxRecDepth 100000 in
theorem coversC (m k t radius r : Int) (w : World) (h : metric_High.f m k t = some r) :
    Calls Tryz.prog 17 #[.int .i64 m, .int .i64 k, .int .i64 t, .int .i64 radius] w fun e w' => e = .returned (.bool (decide (r ≤ radius))) ∧ Below w.heap.size w w' := by
  have HC := Aside0.mk (metric_High.calls m k t r w h)
  clear h
  go_enter Tryz.func17, Tryz.ntmps17
  go_wp2_with fail
  refine HC.out.mono ?_
  rintro e w1 ⟨rfl, hb⟩
  have HB := Aside0.mk hb
  clear hb
  go_wp2
  go_ret
  exact ⟨ret_bool (by simp), HB.out⟩
theorem up_le {α : Type} {f : Nat → Option α} (h : ∀ k, LeO (f k) (f (k + 1))) {k k' : Nat} {r : α} (hk : f k = some r) (hle : k ≤ k') : f k' = some r := by
  induction hle with
  | refl => exact hk
  | step _ ih => exact h _ _ ih
theorem index_ex (xs : List Int) (x : Int) (hx : xs.length ≤ 4611686018427387904) (d : Nat) : ∀ i : Nat, i + d = xs.length → ∃ k r, slices_Index_int_int.l0 k xs x (xs.length : Int) i = some r ∧ (0 ≤ r ↔ ∃ q : Nat, i ≤ q ∧ q < xs.length ∧ rd xs q = x) := by
  induction d with
  | zero =>
    intro i hi
    refine ⟨1, -1, ?_, ?_⟩
    · unfold slices_Index_int_int.l0; rw [if_neg (by omega)]
    · constructor
      · intro h; omega
      · rintro ⟨q, h1, h2, _⟩; omega
  | succ d ih =>
    intro i hi
    by_cases he : x = rd xs i
    · refine ⟨1, i, ?_, ?_⟩
      · unfold slices_Index_int_int.l0
        rw [if_pos (by omega), if_pos (by omega), if_pos (by omega), if_pos he]
      · constructor
        · intro _; exact ⟨i, Nat.le_refl _, by omega, he.symm⟩
        · intro _; omega
    · obtain ⟨k, r, h1, h2⟩ := ih (i + 1) (by omega)
      refine ⟨k + 1, r, ?_, ?_⟩
      · unfold slices_Index_int_int.l0
        rw [if_pos (by omega), if_pos (by omega), if_pos (by omega), if_neg he, w64 (by omega)]
        exact h1
      · rw [h2]
        constructor
        · rintro ⟨q, h3, h4, h5⟩; exact ⟨q, by omega, h4, h5⟩
        · rintro ⟨q, h3, h4, h5⟩
          refine ⟨q, ?_, h4, h5⟩
          rcases Nat.lt_or_ge i q with h | h
          · omega
          · have : q = i := by omega
            subst this; exact absurd h5.symm he
theorem mem_iff_rd {xs : List Int} {x : Int} : x ∈ xs ↔ ∃ q : Nat, q < xs.length ∧ rd xs q = x := by
  constructor
  · intro h
    obtain ⟨q, hq, rfl⟩ := List.mem_iff_getElem.1 h
    exact ⟨q, hq, by simp [rd, hq]⟩
  · rintro ⟨q, hq, rfl⟩
    exact rd_mem (by omega) (by omega)
theorem contains_ex (xs : List Int) (x : Int) (hx : xs.length ≤ 4611686018427387904) : ∃ k r, slices_Contains_int_int.f k xs x = some r ∧ (r = true ↔ x ∈ xs) := by
  obtain ⟨k, r, h1, h2⟩ := index_ex xs x hx xs.length 0 (by omega)
  refine ⟨k, decide (r ≥ 0), ?_, ?_⟩
  · have h1' : slices_Index_int_int.f k xs x = some r := h1
    unfold slices_Contains_int_int.f; rw [h1']; rfl
  · rw [mem_iff_rd, decide_eq_true_iff]
    refine h2.trans ⟨?_, ?_⟩
    · rintro ⟨q, _, h3, h4⟩; exact ⟨q, h3, h4⟩
    · rintro ⟨q, h3, h4⟩; exact ⟨q, Nat.zero_le _, h3, h4⟩
def okAt (n : Int) (xs : List Int) (q : Nat) : Prop := 0 ≤ rd xs q ∧ rd xs q < n ∧ (0 < q → rd xs ((q : Int) - 1) < rd xs q)
def hoodOk (n : Int) (j : Nat) (h : Hd) : Prop := 0 ≤ h.f0 ∧ h.f0 ≤ 134217728 ∧ (j : Int) ∈ h.f1 ∧ ∀ q : Nat, q < h.f1.length → okAt n h.f1 q
def ValidG (n : Int) (g : List Hd) : Prop := 1 ≤ n ∧ n ≤ 4096 ∧ (g.length : Int) = n ∧ ∀ j : Nat, j < g.length → hoodOk n j (rd_T61 g j)
def shortG (g : List Hd) : Prop := ∀ h ∈ g, h.f1.length ≤ 4611686018427387904
theorem l1_ex (n : Int) (g : List Hd) (i : Nat) (radius : Int) (xs : List Int) (hx : xs.length ≤ 4611686018427387904) (hi : (i : Int) < 4611686018427387904) (b : Bool) (k0 : Nat) (h0 : graph_Valid.l0 k0 n g (g.length : Int) ((i : Int) + 1) = some b) (d : Nat) : ∀ p : Nat, p + d = xs.length →
    ∃ k r, graph_Valid.l1 k n g (g.length : Int) i xs (xs.length : Int) p radius xs = some r ∧ (r = true ↔ (∀ q : Nat, p ≤ q → q < xs.length → okAt n xs q) ∧ b = true) := by
  induction d with
  | zero =>
    intro p hp
    refine ⟨k0 + 1, b, ?_, ?_⟩
    · unfold graph_Valid.l1
      rw [if_neg (by omega), w64 (by omega)]
      exact h0
    · constructor
      · intro h; exact ⟨fun q h1 h2 => by omega, h⟩
      · exact fun h => h.2
  | succ d ih =>
    intro p hp
    by_cases c1 : rd xs p < 0
    · refine ⟨1, false, ?_, ?_⟩
      · unfold graph_Valid.l1; rw [if_pos (by omega), if_pos (by omega), if_pos (by omega), if_pos c1]
      · constructor
        · intro h; cases h
        · rintro ⟨h, _⟩; have := (h p (Nat.le_refl _) (by omega)).1; omega
    · by_cases c2 : rd xs p ≥ n
      · refine ⟨1, false, ?_, ?_⟩
        · unfold graph_Valid.l1; rw [if_pos (by omega), if_pos (by omega), if_pos (by omega), if_neg c1, if_pos c2]
        · constructor
          · intro h; cases h
          · rintro ⟨h, _⟩; have := (h p (Nat.le_refl _) (by omega)).2.1; omega
      · obtain ⟨k, r, h1, h2⟩ := ih (p + 1) (by omega)
        by_cases c3 : (p : Int) > 0
        · by_cases c4 : rd xs p ≤ rd xs ((p : Int) - 1)
          · refine ⟨1, false, ?_, ?_⟩
            · unfold graph_Valid.l1
              rw [if_pos (by omega), if_pos (by omega), if_pos (by omega), if_neg c1, if_neg c2, if_pos c3, w64 (i := (p : Int) - 1) (by omega), if_pos (by omega), if_pos (by omega), if_pos c4]
            · constructor
              · intro h; cases h
              · rintro ⟨h, _⟩; have := (h p (Nat.le_refl _) (by omega)).2.2 (by omega); omega
          · refine ⟨k + 1, r, ?_, ?_⟩
            · unfold graph_Valid.l1
              rw [if_pos (by omega), if_pos (by omega), if_pos (by omega), if_neg c1, if_neg c2, if_pos c3, w64 (i := (p : Int) - 1) (by omega), if_pos (by omega), if_pos (by omega), if_neg c4, w64 (by omega)]
              exact h1
            · rw [h2]
              constructor
              · rintro ⟨h, hb⟩
                refine ⟨fun q h3 h4 => ?_, hb⟩
                rcases Nat.lt_or_ge p q with h5 | h5
                · exact h q h5 h4
                · have : q = p := by omega
                  subst this; exact ⟨by omega, by omega, fun _ => by omega⟩
              · rintro ⟨h, hb⟩; exact ⟨fun q h3 h4 => h q (by omega) h4, hb⟩
        · refine ⟨k + 1, r, ?_, ?_⟩
          · unfold graph_Valid.l1
            rw [if_pos (by omega), if_pos (by omega), if_pos (by omega), if_neg c1, if_neg c2, if_neg c3, w64 (by omega)]
            exact h1
          · rw [h2]
            constructor
            · rintro ⟨h, hb⟩
              refine ⟨fun q h3 h4 => ?_, hb⟩
              rcases Nat.lt_or_ge p q with h5 | h5
              · exact h q h5 h4
              · have : q = p := by omega
                subst this; exact ⟨by omega, by omega, fun _ => by omega⟩
            · rintro ⟨h, hb⟩; exact ⟨fun q h3 h4 => h q (by omega) h4, hb⟩
theorem hood_split (n : Int) (i : Nat) (h : Hd) : hoodOk n i h ↔ ¬ h.f0 < 0 ∧ ¬ h.f0 > 134217728 ∧ (i : Int) ∈ h.f1 ∧ (∀ q : Nat, 0 ≤ q → q < h.f1.length → okAt n h.f1 q) := by
  unfold hoodOk
  constructor
  · rintro ⟨h1, h2, h3, h4⟩; exact ⟨by omega, by omega, h3, fun q _ hq => h4 q hq⟩
  · rintro ⟨h1, h2, h3, h4⟩; exact ⟨by omega, by omega, h3, fun q hq => h4 q (Nat.zero_le _) hq⟩
theorem l0_ex (n : Int) (g : List Hd) (hs : shortG g) (hl : g.length ≤ 4096) (d : Nat) : ∀ i : Nat, i + d = g.length →
    ∃ k r, graph_Valid.l0 k n g (g.length : Int) i = some r ∧ (r = true ↔ ∀ j : Nat, i ≤ j → j < g.length → hoodOk n j (rd_T61 g j)) := by
  induction d with
  | zero =>
    intro i hi
    refine ⟨1, true, ?_, ?_⟩
    · unfold graph_Valid.l0; rw [if_neg (by omega)]
    · exact ⟨fun _ j h1 h2 => by omega, fun _ => rfl⟩
  | succ d ih =>
    intro i hi
    obtain ⟨k0, b, h1, h2⟩ := ih (i + 1) (by omega)
    have hlen := hs _ (rd_T_mem (g := g) (i := (i : Int)) (by omega) (by omega))
    obtain ⟨k1, r1, h3, h4⟩ := l1_ex n g i (rd_T61 g i).f0 (rd_T61 g i).f1 hlen (by omega) b k0 h1 (rd_T61 g i).f1.length 0 (by omega)
    obtain ⟨k2, r2, h5, h6⟩ := contains_ex (rd_T61 g i).f1 i hlen
    have hsplit : (∀ j : Nat, i ≤ j → j < g.length → hoodOk n j (rd_T61 g j)) ↔ (hoodOk n i (rd_T61 g i) ∧ b = true) := by
      rw [h2]
      constructor
      · intro h; exact ⟨h i (Nat.le_refl _) (by omega), fun j h7 h8 => h j (by omega) h8⟩
      · rintro ⟨h7, h8⟩ j h9 h10
        rcases Nat.lt_or_ge i j with h11 | h11
        · exact h8 j h11 h10
        · have : j = i := by omega
          subst this; exact h7
    rw [hood_split] at hsplit
    by_cases c1 : (rd_T61 g i).f0 < 0
    · refine ⟨2, false, ?_, ?_⟩
      · unfold graph_Valid.l0
        rw [if_pos (by omega), if_pos (by omega), if_pos (by omega), if_pos c1]; rfl
      · rw [hsplit]; exact ⟨fun h => (by cases h), fun h => absurd c1 h.1.1⟩
    · by_cases c2 : (rd_T61 g i).f0 > 134217728
      · refine ⟨2, false, ?_, ?_⟩
        · unfold graph_Valid.l0
          rw [if_pos (by omega), if_pos (by omega), if_pos (by omega), if_neg c1, if_pos c2]; rfl
        · rw [hsplit]; exact ⟨fun h => (by cases h), fun h => absurd c2 h.1.2.1⟩
      · cases hr2 : r2 with
        | false =>
          refine ⟨k2 + 2, false, ?_, ?_⟩
          · unfold graph_Valid.l0
            rw [if_pos (by omega), if_pos (by omega), if_pos (by omega), if_neg c1, if_neg c2, up_le (slices_Contains_int_int.mono _ _) h5 (show k2 ≤ k2 + 1 by omega), hr2]; rfl
          · rw [hsplit]; exact ⟨fun h => (by cases h), fun h => by have := h6.2 h.1.2.2.1; rw [hr2] at this; cases this⟩
        | true =>
          refine ⟨k1 + k2 + 2, r1, ?_, ?_⟩
          · unfold graph_Valid.l0
            rw [if_pos (by omega), if_pos (by omega), if_pos (by omega), if_neg c1, if_neg c2, up_le (slices_Contains_int_int.mono _ _) h5 (show k2 ≤ k1 + k2 + 1 by omega), hr2]
            show graph_Valid.j2 (k1 + k2 + 1) n g (g.length : Int) i (!true) _ _ = some r1
            unfold graph_Valid.j2
            rw [if_neg (by simp)]
            exact up_le (f := fun k => graph_Valid.l1 k n g (g.length : Int) i (rd_T61 g i).f1 ((rd_T61 g i).f1.length : Int) 0 (rd_T61 g i).f0 (rd_T61 g i).f1) (fun k => (graph_Valid.mono_l k).2.2.2 _ _ _ _ _ _ _ _ _) h3 (by omega)
          · rw [h4, hsplit]
            constructor
            · rintro ⟨h7, h8⟩; exact ⟨⟨c1, c2, h6.1 hr2, h7⟩, h8⟩
            · rintro ⟨⟨_, _, _, h7⟩, h8⟩; exact ⟨h7, h8⟩
theorem valid_ex (n : Int) (g : List Hd) (hs : shortG g) : ∃ k r, graph_Valid.f k n g = some r ∧ (r = true ↔ ValidG n g) := by
  unfold ValidG
  by_cases c1 : n < 1
  · refine ⟨1, false, ?_, ⟨fun h => by (cases h), fun h => by omega⟩⟩
    unfold graph_Valid.f; rw [if_pos c1]; rfl
  · by_cases c2 : n > 4096
    · refine ⟨1, false, ?_, ⟨fun h => by (cases h), fun h => by omega⟩⟩
      unfold graph_Valid.f; rw [if_neg c1, if_pos c2]; rfl
    · by_cases c3 : (g.length : Int) = n
      · obtain ⟨k, r, h1, h2⟩ := l0_ex n g hs (by omega) g.length 0 (by omega)
        refine ⟨k + 1, r, ?_, ?_⟩
        · unfold graph_Valid.f
          rw [if_neg c1, if_neg c2]
          have e : ((g.length : Int) != n) = false := by simp [c3]
          rw [e]
          show (if false = true then some false else graph_Valid.l0 k n g (g.length : Int) 0) = some r
          rw [if_neg (by simp)]
          exact h1
        · rw [h2]
          exact ⟨fun h => ⟨by omega, by omega, c3, fun j hj => h j (Nat.zero_le _) hj⟩, fun h j _ hj => h.2.2.2 j hj⟩
      · refine ⟨1, false, ?_, ⟨fun h => by (cases h), fun h => absurd h.2.2.1 c3⟩⟩
        unfold graph_Valid.f; rw [if_neg c1, if_neg c2]
        have e : ((g.length : Int) != n) = true := by simp [c3]
        rw [e]; rfl
theorem valid_at {n : Int} {g : List Hd} (hs : shortG g) : ValidG n g → ValidAt n g true := by
  intro h
  obtain ⟨k, r, h1, h2⟩ := valid_ex n g hs
  rw [h2.2 h] at h1
  exact ⟨k, h1⟩
theorem asc_len (n : Int) (xs : List Int) (h : ∀ q : Nat, q < xs.length → okAt n xs q) : (xs.length : Int) ≤ n ∨ xs = [] := by
  have main : ∀ q : Nat, q < xs.length → (q : Int) ≤ rd xs q := by
    intro q
    induction q with
    | zero => intro hq; have := (h 0 hq).1; simpa using this
    | succ q ih =>
      intro hq
      have h1 := ih (by omega)
      have h2 := (h (q + 1) hq).2.2 (by omega)
      have e : ((q + 1 : Nat) : Int) - 1 = q := by omega
      rw [e] at h2
      omega
  cases hx : xs with
  | nil => exact .inr rfl
  | cons a r =>
    left
    have h1 := main (xs.length - 1) (by rw [hx]; simp)
    have h2 := (h (xs.length - 1) (by rw [hx]; simp)).2.1
    rw [← hx]
    have h3 : 1 ≤ xs.length := by rw [hx]; simp
    omega
theorem good_of_valid {n : Nat} {g : List Hd} (h : ValidG n g) : GoodG n g := by
  obtain ⟨h1, h2, h3, h4⟩ := h
  refine ⟨by omega, fun x hx => ?_⟩
  obtain ⟨j, hj, rfl⟩ := List.mem_iff_getElem.1 hx
  have e : rd_T61 g j = g[j] := by unfold rd_T61; simp [hj]
  have h5 := h4 j hj
  rw [e] at h5
  obtain ⟨_, _, h6, h7⟩ := h5
  have h8 : 1 ≤ g[j].f1.length := List.length_pos_of_mem h6
  refine ⟨h8, ?_, fun s hs => ?_⟩
  · rcases asc_len _ _ h7 with h9 | h9
    · omega
    · rw [h9] at h8; simp at h8
  · obtain ⟨q, hq, rfl⟩ := mem_iff_rd.1 hs
    exact ⟨(h7 q hq).1, (h7 q hq).2.1⟩
open Go.ChangeShapes Go.WideShapes Go.RowKit Go.Deep
variable {H : Type} {enc : TypeId × Value → H} {w : World} {held : Bool}
theorem maxLen_le : maxLen ≤ 9223372036854775807 := by decide
theorem open_rows {fuel : Nat} {cs : List Value} {x : DataW H × List MemPlace} (h : DataW.trod enc Tryz.prog w 0 (fun _ => true) held fuel 22 cs = some x) :
    ∃ (l : List (List Int)) (A : Option Addr) (c : Nat), cs = [.slice A l.length c] ∧ l.length ≤ c ∧ Kd.C (Kd.slice 3 (Kd.int .i64)) w A l.length l := by
  rcases open_int_rows Tryz.underlying22 Tryz.underlying26 Tryz.underlying3 (by kernel_rfl) (by kernel_rfl) h with ⟨h0, _⟩ | ⟨a, len, cap, A, L, C, Z, rfl, hb, hl, hm, _, hr⟩
  · exact ⟨[], none, 0, h0, Nat.le_refl _, Kd.C_nil _ _⟩
  · refine ⟨(List.range len).map fun r => (Z r).take (L r), some a, cap, by simp, by simpa using hl, ⟨by simp, by simp; have := maxLen_le; omega, fun _ => ⟨a, rfl, fun j p hj => ?_⟩⟩⟩
    simp only [List.getElem?_map, Option.map_eq_some_iff] at hj
    obtain ⟨q, hq, rfl⟩ := hj
    rw [List.getElem?_eq_some_iff] at hq
    obtain ⟨hq1, hq2⟩ := hq
    simp at hq1 hq2
    subst hq2
    obtain ⟨h1, h2, h3, h4, _, h6, h7⟩ := hr j (by omega)
    have hzl : ((Z j).take (L j)).length = L j := by simp; omega
    refine ⟨[.slice (A j) ((Z j).take (L j)).length (C j)], rfl, ⟨A j, C j, rfl, by rw [hzl]; exact h2, ?_⟩, fun i u hu => ?_⟩
    · refine Kd.C_of_reads (d := (0 : Int)) ⟨rfl, by rw [hzl]; have := maxLen_le; omega, fun hp => ?_⟩
      rw [hzl] at hp
      cases hA : A j with
      | none => have := h6 hA; omega
      | some a' =>
        refine ⟨a', rfl, fun i hi => ?_⟩
        rw [hzl] at hi
        rw [(h7 a' hA).2 i (by omega)]
        congr 2
        simp [List.getD, List.getElem?_take_of_lt hi]
    · have hi0 : i = 0 := by
        have := (List.getElem?_eq_some_iff.1 hu).1
        simp at this; exact this
      subst hi0
      simp at hu
      subst hu
      show w.cell? (a.add (j * 1 + 0)) = _
      rw [Nat.mul_one, Nat.add_zero, h1]
      congr 2
      first | exact hzl.symm | (simp; omega) | omega
theorem open_hoods {fuel : Nat} {cs : List Value} {x : DataW H × List MemPlace} (h : DataW.trod enc Tryz.prog w 0 (fun _ => true) held fuel 23 cs = some x) :
    ∃ (g : List Hd) (A : Option Addr) (c : Nat), cs = [.slice A g.length c] ∧ g.length ≤ c ∧ Kd.C k61 w A g.length g := by
  rcases open_slice_pairs Tryz.underlying23 Tryz.underlying61 (by kernel_rfl) rfl rfl (by kernel_rfl) (by kernel_rfl) h with ⟨h0, _⟩ | ⟨a, len, cap, m, n, V0, V1, D0, D1, P0, P1, rfl, hb, hl, hm, hmm, _, hr⟩
  · exact ⟨[], none, 0, h0, Nat.le_refl _, Kd.C_nil _ _⟩
  · simp only [if_true] at hmm
    have each : ∀ i, i < len → ∃ y : Hd × Option Addr × Nat, V0 i = .int .i64 y.1.f0 ∧ V1 i = .slice y.2.1 y.1.f1.length y.2.2 ∧ y.1.f1.length ≤ y.2.2 ∧ Kd.C (Kd.int .i64) w y.2.1 y.1.f1.length y.1.f1 := by
      intro i hi
      obtain ⟨_, _, t0, t1⟩ := hr i (by omega)
      obtain ⟨n0, e0, _, _⟩ := DataW.trod_int Tryz.underlying3 t0
      have e0' : V0 i = .int .i64 n0 := by simpa using e0
      rcases open_ints Tryz.underlying26 Tryz.underlying3 (by kernel_rfl) t1 with ⟨hn, _⟩ | ⟨a', l', c', zs, hn, _, hl', hm', hz', _, hcell, _⟩
      · exact ⟨(⟨n0, []⟩, none, 0), e0', by simpa using hn, Nat.le_refl _, Kd.C_nil _ _⟩
      · simp only [if_true] at hz'
        have hzl : (zs.take l').length = l' := by simp; omega
        have hn' : V1 i = .slice (some a') l' c' := by simpa using hn
        refine ⟨(⟨n0, zs.take l'⟩, some a', c'), e0', by rw [hn']; congr 1; exact hzl.symm, by show (zs.take l').length ≤ c'; rw [hzl]; exact hl', ?_⟩
        refine Kd.C_of_reads (d := (0 : Int)) ⟨rfl, by show (zs.take l').length ≤ _; rw [hzl]; have := maxLen_le; omega, fun hp => ⟨a', rfl, fun q hq => ?_⟩⟩
        have hq' : q < l' := by rw [← hzl]; exact hq
        rw [hcell q (by omega)]
        congr 2
        simp [List.getD, List.getElem?_take_of_lt hq']
    have hY : ∃ Y : Nat → Hd × Option Addr × Nat, ∀ i, i < len → V0 i = .int .i64 (Y i).1.f0 ∧ V1 i = .slice (Y i).2.1 (Y i).1.f1.length (Y i).2.2 ∧ (Y i).1.f1.length ≤ (Y i).2.2 ∧ Kd.C (Kd.int .i64) w (Y i).2.1 (Y i).1.f1.length (Y i).1.f1 :=
      ⟨fun i => if hi : i < len then (each i hi).choose else (⟨0, []⟩, none, 0), fun i hi => by simp only [dif_pos hi]; exact (each i hi).choose_spec⟩
    obtain ⟨Y, hY⟩ := hY
    refine ⟨(List.range len).map fun i => (Y i).1, some a, cap, by simp, by simpa using hl, ⟨by simp, by simp; have := maxLen_le; omega, fun _ => ⟨a, rfl, fun j p hj => ?_⟩⟩⟩
    simp only [List.getElem?_map, Option.map_eq_some_iff] at hj
    obtain ⟨q, hq, rfl⟩ := hj
    rw [List.getElem?_eq_some_iff] at hq
    obtain ⟨hq1, hq2⟩ := hq
    simp at hq1 hq2
    subst hq2
    obtain ⟨h1, h2, h3, h4⟩ := hY j hq1
    obtain ⟨c1, c2, _, _⟩ := hr j (by omega)
    refine ⟨[.int .i64 (Y j).1.f0, .slice (Y j).2.1 (Y j).1.f1.length (Y j).2.2], rfl, k61_mk w (Y j).1 h3 h4, fun i u hu => ?_⟩
    match i with
    | 0 =>
      simp at hu; subst hu
      show w.cell? (a.add (j * 2 + 0)) = _
      rw [Nat.add_zero, c1, h1]
    | 1 =>
      simp at hu; subst hu
      show w.cell? (a.add (j * 2 + 1)) = _
      rw [c2, h2]
    | i + 2 => simp at hu
theorem open_list {fuel : Nat} {cs : List Value} {x : DataW H × List MemPlace} (h : DataW.trod enc Tryz.prog w 0 (fun _ => true) true fuel 26 cs = some x) :
    ∃ (v : List Int) (A : Option Addr) (c : Nat), cs = [.slice A v.length c] ∧ v.length ≤ c ∧ Kd.C (Kd.int .i64) w A v.length v := by
  rcases open_ints Tryz.underlying26 Tryz.underlying3 (by kernel_rfl) h with ⟨hn, _⟩ | ⟨a', l', c', zs, hn, _, hl', hm', hz', _, hcell, _⟩
  · exact ⟨[], none, 0, by simpa using hn, Nat.le_refl _, Kd.C_nil _ _⟩
  · simp only [if_true] at hz'
    have hzl : (zs.take l').length = l' := by simp; omega
    refine ⟨zs.take l', some a', c', by rw [hn]; congr 2; exact hzl.symm, by rw [hzl]; exact hl', ?_⟩
    refine Kd.C_of_reads (d := (0 : Int)) ⟨rfl, by rw [hzl]; have := maxLen_le; omega, fun hp => ⟨a', rfl, fun q hq => ?_⟩⟩
    have hq' : q < l' := by rw [← hzl]; exact hq
    rw [hcell q (by omega)]
    congr 2
    simp [List.getD, List.getElem?_take_of_lt hq']
end Go.Proofs.YthbkomkgciemiaaGreat.PKF
namespace Go.Proofs.YthbkomkgciemiaaGreat.RF
open Go Go.Sort Go.RowKit
variable {P : Program} {F : Fence} {n : Nat} {md : Region.Mode} {ops : Array Oper} {C : World → Prop}
def noDefer (l : List Oper) : Bool := l.all fun o => match o.op with
  | .defer _ => false
  | _ => true
theorem noDefer_at {i : Nat} {o : Oper} (h : noDefer ops.toList = true) (ho : ops[i]? = some o) : ∀ c, o.op ≠ .defer c := by
  intro c hc
  have hm : o ∈ ops.toList := by
    have := Array.getElem?_toList (xs := ops) (i := i)
    rw [ho] at this
    exact List.mem_of_getElem? this
  have := List.all_eq_true.1 h o hm
  rw [hc] at this
  cases this
theorem step_of_quiet {o : Oper} {a : Act} {K : Act → Prop} {K' : Act → World → Prop} {Q' : Exit → Act → World → Prop} {w : World} (hd : ∀ c, o.op ≠ .defer c) (hw : C w) (h : ∀ a w', C w' → K a → K' a w')
    (ha : o.askedIn F P a C) (hh : o.quietIn F n P a C K) : o.wpIn F n P a w K' Q' := by
  obtain ⟨v, h1, h2⟩ := hh
  have h3 := h1 w hw
  unfold Oper.quietAtIn at h3
  unfold Oper.wpIn
  refine ⟨ha w hw, ?_⟩
  rw [Oper.semAt_eq F.round a.eval o hd]
  revert h3
  generalize (execOp a.eval o).run P w = r
  intro h3
  cases r with
  | halt x w' => exact h3.elim
  | ok x w' =>
    cases x with
    | value u =>
      obtain ⟨rfl, rfl⟩ := h3
      exact h _ _ hw h2
    | skip =>
      obtain ⟨rfl, rfl⟩ := h3
      exact h _ _ hw h2
    | enter f args =>
      obtain ⟨rfl, hd, hc⟩ := h3
      exact ⟨hd, hc.mono fun e w'' ⟨he, hw''⟩ => by subst he; exact h _ _ hw'' h2⟩
    | _ => exact h3.elim
theorem op_of_quiet {i : Nat} {a : Act} {K : Act → Prop} {K' : Act → World → Prop} {Q' : Exit → Act → World → Prop} {w : World} (hd : noDefer ops.toList = true) (hw : C w) (h : ∀ a w', C w' → K a → K' a w')
    (hh : qOpIn F n P ops C i K a) : wpOpIn F n P ops Q' i K' a w := by
  unfold qOpIn at hh
  unfold wpOpIn
  cases ho : ops[i]? with
  | none => simp only [ho] at hh; exact h _ _ hw hh
  | some o =>
    simp only [ho] at hh
    obtain ⟨ha, hh⟩ := hh
    dsimp only
    cases hg : Region.wanted o (yielded ops a.tmps) with
    | true => simp only [hg, if_true] at hh ⊢; exact step_of_quiet (noDefer_at hd ho) hw h ha hh
    | false => simp only [hg] at hh ⊢; exact ⟨ha w hw, h _ _ hw hh⟩
theorem any_of_quiet {Q : Act → Prop} {Q' : Exit → Act → World → Prop} (hd : noDefer ops.toList = true) (hQ : ∀ a w, C w → Q a → Q' .normal a w) : ∀ (fuel : Nat) (listed : Array Bool) (a : Act) (w : World), C w →
    wpAnyQIn F n P md ops C Q fuel listed a → wpAnyIn F n P md ops Q' fuel listed a w
  | 0, _, _, _, hw, h => ⟨h.1, hQ _ _ hw h.2⟩
  | fuel + 1, _, _, _, hw, h => ⟨fun h0 => hQ _ _ hw (h.1 h0), fun i hi => op_of_quiet hd hw (fun a' w' hw' => any_of_quiet hd hQ fuel _ a' w' hw') (h.2 i hi)⟩
theorem region_quiet {id : Nat} {Q : Exit → Act → World → Prop} {a : Act} {w : World} {l : List Oper} (hm : P.follows .mixedOrders = true) (hB : Region.lexB .any l.toArray = true) (hd : noDefer l = true) (hC : C w.drew)
    (h : wpQuietIn F n P l.toArray C (fun a' => ∀ w', C w' → Q .normal a' w') l a) : (Code.region id l.toArray true).wpIn F n P Q a w := by
  simp only [Region.lexB, Bool.and_eq_true] at hB
  refine wpIn_region_any hm (any_of_quiet (Q := fun a' => ∀ w', C w' → Q .normal a' w') (by simpa using hd) (fun _ w' hw' h => h w' hw') _ _ _ _ hC ?_)
  have := wpAnyQIn_lex (F := F) (n := n) (C := C) (md := .any) hB.1 l 0 (Array.replicate l.toArray.size false) a (by simp) (by simpa using hB.2) h
  simpa using this
theorem region_quiet_below {id : Nat} {Q : Exit → Act → World → Prop} {a : Act} {w : World} {l : List Oper} (hm : P.follows .mixedOrders = true) (hB : Region.lexB .any l.toArray = true) (hd : noDefer l = true)
    (h : wpQuietIn F n P l.toArray (fun w' => ∃ p : Regrown, w' = grow (redrawn w p.d) p.os) (fun a' => ∀ w', (∃ p : Regrown, w' = grow (redrawn w p.d) p.os) → Q .normal a' w') l a) : (Code.region id l.toArray true).wpIn F n P Q a w :=
  region_quiet (C := fun w' => ∃ p : Regrown, w' = grow (redrawn w p.d) p.os) hm hB hd ⟨⟨w.drawn + 1, #[]⟩, by rw [grow_empty]; rfl⟩ h
end Go.Proofs.YthbkomkgciemiaaGreat.RF
namespace Go.Proofs.YthbkomkgciemiaaGreat.PKF
open Go.Proofs.YthbkomkgciemiaaGreat.RF
open Go.RowKit Go.Proofs.YthbkomkgciemiaaGreatW.PrintWords Go.Proofs.YthbkomkgciemiaaGreatW.PrintLast Go.Proofs.YthbkomkgciemiaaGreatW.PrintMore
attribute [local go_sem] max2_int min2_int max_two min_two max_three min_three max_four min_four
set_option linter.unusedVariables false
set_option linter.unusedSimpArgs false
def PredC (gf : Nat) (lb : Array Value) (p : Int → Bool) (base : Nat) (xs : List Int) (w : World) : Prop :=
  ∀ W, Below base w W → ∀ x ∈ xs, Calls Tryz.prog gf (#[.int .i64 x] ++ lb) W fun e w' => e = .returned (.bool (p x)) ∧ Drawn0 W w'
theorem PredC.move {gf : Nat} {lb : Array Value} {p : Int → Bool} {base : Nat} {xs : List Int} {w W : World} (h : PredC gf lb p base xs w) (hb : Below base w W) : PredC gf lb p base xs W := fun W' hW => h W' (hb.trans hW)
theorem rd_mem' (xs : List Int) (k : Nat) (h : k < xs.length) : rd xs k ∈ xs := by
  have : rd xs k = xs[k] := by simp [rd, h]
  rw [this]; exact List.getElem_mem h
theorem drawnT {a b c : World} (h : Drawn0 a b) (k : Drawn0 b c) : Drawn0 a c := by
  obtain ⟨n, rfl⟩ := k
  exact h.step n
set_option maxHeartbeats 400000 in
set_option maxRecDepth 100000 in
theorem indexC (gf : Nat) (lb : Array Value) (b1 b2 : Value) (hlb : lb = #[b1, b2]) (eg : ∀ args w, (callFunc gf args).run Tryz.prog w = .ok (.enter gf args) w) (p : Int → Bool) (base : Nat) (A : Option Addr) (c : Nat) (xs : List Int) (w : World) (hx : Kd.C (Kd.int .i64) w A xs.length xs) (hP : PredC gf lb p base xs w) (hbs : base ≤ w.heap.size) :
    Calls Tryz.prog 59 #[.slice A xs.length c, .func (.func gf) #[] lb] w fun e w' => (∃ i : Int, e = .returned (.int .i64 i) ∧ ((i = -1 ∧ ∀ x ∈ xs, p x = false) ∨ ∃ k : Nat, i = k ∧ k < xs.length ∧ (∀ j, j < k → p (rd xs j) = false) ∧ p (rd xs k) = true)) ∧ Drawn0 w w' := by
  subst hlb
  have hm := Kd.C_max hx
  have HX := Aside0.mk hx
  have HP := Aside0.mk hP
  clear hx hP
  go_enter Tryz.func59, Tryz.ntmps59
  go_wp2
  go_loopw [5, 8] (fun _ i wr => ∃ k : Nat, k ≤ xs.length ∧ i = .int .i64 k ∧ Aside0 (∀ j : Nat, j < k → p (rd xs j) = false) ∧ Aside0 (Drawn0 w wr)) (fun _ i _ => xs.length - (intOf i).toNat)
  case atStart => exact ⟨0, Nat.zero_le _, rfl, ⟨fun j hj => by omega⟩, ⟨Drawn0.refl _⟩⟩
  case round =>
    obtain ⟨k, hk, rfl, HF, HD⟩ := hrel
    by_cases hlt : k < xs.length
    · obtain ⟨ad, rfl, hc⟩ := Kd.at_int (Kd.C_below HX.out HD.out.below) k (by omega) (by omega)
      simp only [Int.toNat_natCast] at hc
      have HC := Aside0.mk (HP.out wr (HD.out.below.mono hbs) (rd xs k) (rd_mem' xs k hlt))
      simp only [List.push_toArray, List.append_toArray, List.cons_append, List.nil_append] at HC
      generalize hy : rd xs k = y at hc HC
      have HY := Aside0.mk hy
      clear hy
      go_wp2_with fail
      refine HC.out.mono ?_
      rintro e w1 ⟨rfl, hd⟩
      have HD1 := Aside0.mk (drawnT HD.out hd)
      clear hd HC
      cases hp : p y with
      | true =>
        have HPY := Aside0.mk hp
        go_wp2
        go_ret
        refine ⟨⟨k, rfl, .inr ⟨k, rfl, hlt, HF.out, by rw [HY.out]; exact HPY.out⟩⟩, HD1.out⟩
      | false =>
        have HPY := Aside0.mk hp
        go_wp2
        go_roundw
        case rel =>
          refine ⟨k + 1, by omega, by go_num, ⟨fun j hj => ?_⟩, HD1⟩
          rcases Nat.lt_succ_iff_lt_or_eq.1 hj with h | rfl
          · exact HF.out j h
          · rw [HY.out]; exact HPY.out
        case measure => simp [intOf]; omega
    · go_wp2
      go_ret
      refine ⟨⟨-1, rfl, .inl ⟨rfl, fun x hx => ?_⟩⟩, HD.out⟩
      obtain ⟨j, hj, rfl⟩ := List.mem_iff_getElem.1 hx
      have := HF.out j (by omega)
      simpa [rd, hj] using this
def Kept (p : Int → Bool) (xs : List Int) (j i : Nat) (ys : List Int) : Prop := ys.length = xs.length ∧ i < j ∧ j ≤ xs.length ∧ ys.take i = (xs.take j).filter (fun x => !p x) ∧ ys.drop j = xs.drop j
theorem kept_rd {p : Int → Bool} {xs : List Int} {j i : Nat} {ys : List Int} (h : Kept p xs j i ys) (hj : j < xs.length) : rd ys j = rd xs j := by
  have h2 := congrArg (fun l => l[0]?) h.2.2.2.2
  simp only [List.getElem?_drop, Nat.add_zero] at h2
  have hl := h.1
  unfold rd
  simp only [Int.toNat_natCast, List.getD_eq_getElem?_getD, h2]
theorem kept_skip {p : Int → Bool} {xs : List Int} {j i : Nat} {ys : List Int} (h : Kept p xs j i ys) (hj : j < xs.length) (hp : p (rd xs j) = true) : Kept p xs (j + 1) i ys := by
  obtain ⟨h1, h2, h3, h4, h5⟩ := h
  refine ⟨h1, by omega, by omega, ?_, ?_⟩
  · rw [h4, take_succ_rd xs j hj, List.filter_append]; simp [hp]
  · have := congrArg (List.drop 1) h5
    simpa [List.drop_drop, Nat.add_comm] using this
theorem kept_keep {p : Int → Bool} {xs : List Int} {j i : Nat} {ys : List Int} (h : Kept p xs j i ys) (hj : j < xs.length) (hp : p (rd xs j) = false) : Kept p xs (j + 1) (i + 1) (ys.set i (rd xs j)) := by
  obtain ⟨h1, h2, h3, h4, h5⟩ := h
  refine ⟨by simpa using h1, by omega, by omega, ?_, ?_⟩
  · rw [take_succ_rd xs j hj, List.filter_append, ← h4]
    have hi : i < ys.length := by omega
    rw [List.take_succ_eq_append_getElem (by simpa using hi)]
    simp [hp, List.take_set_of_le]
  · rw [List.drop_set_of_lt (by omega)]
    have := congrArg (List.drop 1) h5
    simpa [List.drop_drop, Nat.add_comm] using this
theorem kept_start {p : Int → Bool} {xs : List Int} {k : Nat} (hk : k < xs.length) (hf : ∀ j : Nat, j < k → p (rd xs j) = false) (ht : p (rd xs k) = true) : Kept p xs (k + 1) k xs := by
  refine ⟨rfl, by omega, by omega, ?_, rfl⟩
  rw [take_succ_rd xs k hk, List.filter_append]
  simp only [ht, List.filter_cons, List.filter_nil]
  rw [List.filter_eq_self.2 (fun x hx => ?_)]
  · simp
  · obtain ⟨j, hj, rfl⟩ := List.mem_iff_getElem.1 hx
    have hj' : j < k := by simp at hj; omega
    have := hf j hj'
    have hjx : j < xs.length := by omega
    simpa [rd, hjx] using this
theorem own_setCells {base g n cap : Nat} {e : TypeId} (zs : List Int) : ∀ (o : Nat) (W : World) (xs : List Int), W.ownsRow base e 1 (.slice (some ⟨g, 0, none⟩) n cap) n (nums .i64 xs) →
    ∃ ys, ys.length = xs.length ∧ ys.take o = xs.take o ∧ (W.setCells g o (zs.map (Value.int .i64))).ownsRow base e 1 (.slice (some ⟨g, 0, none⟩) n cap) n (nums .i64 ys) ∧ Below base W (W.setCells g o (zs.map (Value.int .i64))) := by
  induction zs with
  | nil => intro o W xs h; exact ⟨xs, rfl, rfl, h, Below.refl _ _⟩
  | cons z r ih =>
    intro o W xs h
    have hbg := own_base h g rfl
    have h2 := (own_store h (o : Int) z).1
    simp only [Int.toNat_natCast] at h2
    obtain ⟨ys, h3, h4, h5, h6⟩ := ih (o + 1) _ _ h2
    refine ⟨ys, by simpa using h3, ?_, h5, ((Below.refl base W).setCell (p := ⟨g, o, none⟩) hbg _).trans h6⟩
    have := congrArg (List.take o) h4
    rw [List.take_take, List.take_take, Nat.min_eq_left (by omega)] at this
    rw [this, List.take_set_of_le (by omega)]
set_option maxHeartbeats 1000000 in
set_option maxRecDepth 100000 in
theorem deleteC (gf : Nat) (lb : Array Value) (b1 b2 : Value) (hlb : lb = #[b1, b2]) (eg : ∀ args w, (callFunc gf args).run Tryz.prog w = .ok (.enter gf args) w) (p : Int → Bool) (base g cap : Nat) (xs : List Int) (w : World) (ho : w.ownsRow base 3 1 (.slice (some ⟨g, 0, none⟩) xs.length cap) xs.length (nums .i64 xs)) (hP : PredC gf lb p base xs w) :
    Calls Tryz.prog 34 #[.slice (some ⟨g, 0, none⟩) xs.length cap, .func (.func gf) #[] lb] w fun e w' => ∃ v, e = .returned v ∧ w'.ownsRow base 3 1 v (xs.filter fun x => !p x).length (nums .i64 (xs.filter fun x => !p x)) ∧ Below base w w' := by
  subst hlb
  have hbg := own_base ho g rfl
  have hlg := own_lt ho g rfl
  have hR : Kd.R (Kd.int .i64) 3 w base (fun _ => True) (.slice (some ⟨g, 0, none⟩) xs.length cap) xs := Kd.R_of_own (enc := Value.int .i64) ho (fun _ _ => trivial)
  have hcap := (Kd.R_reads' hR).2.1
  have hC := (Kd.R_reads' hR).2.2
  have hm := Kd.C_max hC
  have HI := Aside0.mk (indexC gf _ b1 b2 rfl eg p base _ cap xs w hC hP (by omega))
  have HO := Aside0.mk ho
  have HP := Aside0.mk hP
  clear ho hP hR hC
  go_enter Tryz.func34, Tryz.ntmps34
  go_wp2_with fail
  refine HI.out.mono ?_
  rintro e w1 ⟨⟨i, rfl, hi⟩, hd⟩
  have HO1 := Aside0.mk (pw_own_below HO.out hd.below)
  have HB1 := Aside0.mk (hd.below.mono (show base ≤ w.heap.size by omega))
  clear hd HI
  rcases hi with ⟨rfl, hall⟩ | ⟨k, rfl, hk, hf, ht⟩
  · have HA := Aside0.mk hall
    clear hall
    go_wp2
    go_ret
    refine ⟨_, rfl, ?_, HB1.out⟩
    rw [List.filter_eq_self.2 (fun x hx => by rw [HA.out x hx]; rfl)]
    exact HO1.out
  · have HK := Aside0.mk (kept_start hk hf ht)
    clear hf ht
    go_wp2
    go_loopw [5, 6, 7] (fun i j _ wr => ∃ (i' j' : Nat) (ys : List Int), i = .int .i64 i' ∧ j = .int .i64 j' ∧ j' ≤ xs.length ∧ i' < j' ∧ ys.length ≤ xs.length ∧ xs.length ≤ ys.length ∧ Aside0 (Kept p xs j' i' ys) ∧ Aside0 (wr.ownsRow base 3 1 (.slice (some ⟨g, 0, none⟩) xs.length cap) xs.length (nums .i64 ys)) ∧ Aside0 (Below base w wr)) (fun _ j _ _ => xs.length - (intOf j).toNat)
    case atStart => exact ⟨k, k + 1, xs, rfl, by go_num, hk, by omega, Nat.le_refl _, Nat.le_refl _, HK, HO1, HB1⟩
    case round =>
      obtain ⟨i', j', ys, rfl, rfl, hj, hij, hy1, hy2, HKP, HOW, HBW⟩ := hrel
      clear HO1 HB1 HK hk HO
      by_cases hlt : j' < xs.length
      · obtain ⟨c1, f1⟩ := own_at HOW.out j' (by omega) (by omega)
        obtain ⟨c2, f2⟩ := own_at HOW.out i' (by omega) (by omega)
        simp only [Int.toNat_natCast] at c1 c2 f1 f2
        rw [kept_rd HKP.out hlt] at c1
        have HC := Aside0.mk (HP.out wr HBW.out (rd xs j') (rd_mem' xs j' hlt))
        simp only [List.push_toArray, List.append_toArray, List.cons_append, List.nil_append] at HC
        generalize hy : rd xs j' = y at c1 HC
        generalize rd ys i' = old at c2
        have HY := Aside0.mk hy
        clear hy f1
        go_wp2_with fail
        refine HC.out.mono ?_
        rintro e w2 ⟨rfl, hd⟩
        have c3 := (hd.below.cell (World.block_lt_of_cell? _ _ c2)).trans c2
        have f3 := (hd.below.frozen (World.block_lt_of_cell? _ _ c2)).trans f2
        have HOW2 := Aside0.mk (pw_own_below HOW.out hd.below)
        have HBW2 := Aside0.mk (HBW.out.trans (hd.below.mono (Nat.le_trans (Nat.le_of_lt (Nat.lt_of_le_of_lt hbg hlg)) HBW.out.size)))
        clear hd HC c1 c2 f2
        cases hp : p y with
        | true =>
          have HK2 := Aside0.mk (kept_skip HKP.out hlt (by rw [HY.out]; exact hp))
          clear hp c3 f3
          go_wp2
          go_roundw
          case rel => (repeat apply Exists.intro); exact ⟨⟨i', j' + 1, ys, rfl, by go_num, by omega, by omega, hy1, hy2, HK2, HOW2, HBW2⟩, rfl⟩
          case measure => simp [intOf]; omega
        | false =>
          have HK2 := Aside0.mk (kept_keep HKP.out hlt (by rw [HY.out]; exact hp))
          rw [HY.out] at HK2
          have HOW3 := Aside0.mk (own_store HOW2.out i' y).1
          simp only [Int.toNat_natCast] at HOW3
          have HBW3 := Aside0.mk (HBW2.out.setCell (p := ⟨g, i', none⟩) hbg (.int .i64 y))
          clear hp
          go_wp2
          go_roundw
          case rel => (repeat apply Exists.intro); exact ⟨⟨i' + 1, j' + 1, ys.set i' y, by go_num, by go_num, by omega, by omega, by simpa using hy1, by simpa using hy2, HK2, HOW3, HBW3⟩, rfl⟩
          case measure => simp [intOf]; omega
      · have hje : j' = xs.length := by omega
        have hcl : ∀ ty, (Builtin.clear_ #[26] ty #[.slice (some ⟨g, i', none⟩) (xs.length - i') (cap - i')]).run Tryz.prog wr = .ok (.tuple #[]) (wr.setCells g i' (List.replicate (xs.length - i') (.int .i64 0))) :=
          fun ty => Lib.run_clear_slice wr _ 3 ty _ Tryz.underlying26 (fun w => by kernel_rfl) rfl rfl g i' _ _ (by omega) (fun q hq => by have := (own_at HOW.out (i' + q : Nat) (by omega) (by omega)).1; simp only [Int.toNat_natCast] at this; rw [this]; rfl) (fun q hq => by have := (own_at HOW.out (i' + q : Nat) (by omega) (by omega)).2; rw [Int.toNat_natCast] at this; exact this)
        have hi1 : i' < xs.length := by omega
        have HKP2 := HKP.out
        rw [hje] at HKP2
        have HK3 := Aside0.mk HKP2
        have hlti : ¬ xs.length < i' := by omega
        clear HKP2 hje
        go_wp2
        go_ret
        obtain ⟨zs, z1, z2, z3, z4⟩ := own_setCells (List.replicate (xs.length - i') (0 : Int)) i' wr ys HOW.out
        rw [List.map_replicate] at z3 z4
        obtain ⟨_, _, _, e4, _⟩ := HK3.out
        rw [List.take_length] at e4
        have hfl : (xs.filter fun x => !p x).length = i' := by rw [← e4]; simp; omega
        refine ⟨_, rfl, ?_, HBW.out.trans z4⟩
        rw [hfl]
        have := own_take z3 (show i' ≤ xs.length by omega)
        have e5 : (nums IntKind.i64 zs).take (i' * 1) = nums .i64 (xs.filter fun x => !p x) := by rw [Nat.mul_one, nums, ← List.map_take, z2, e4]; rfl
        rw [e5] at this
        exact this
open Go.RowKit
open Go.Sort (grow)
attribute [local go_sem] Oper.semAt_some
def coverF (m : Int) (ks : List Int) (g : List Hd) (t a : Int) : Bool := match metric_High.f m (rd ks a) t with
  | some r => decide (r ≤ (rd_T61 g a).f0)
  | none => false
def nearF (ks : List Int) (t : Int) (xs : List Int) : List Int := xs.filter fun x => !decide (rd ks x > t)
def lastF (from_ : Int) (xs : List Int) : Int := xs.getLastD from_
def withinV (m : Int) (ks : List Int) (g : List Hd) (from_ t : Int) : List Int × Int × Bool :=
  match (walkV ks g from_).find? (coverF m ks g t) with
  | some a => (nearF ks t (rd_T61 g a).f1, a, true)
  | none => ([], lastF from_ (walkV ks g from_), false)
def WRes (s0 : Nat) (W : World) (v : Value) (a : Int) (b : Bool) : Prop :=
  W.heap[s0 + 1 + 1 + 1]? = some (.cells #[v] 26 (0, 0)) ∧ W.heap[s0 + 1 + 1 + 1 + 1]? = some (.cells #[.int .i64 a] 3 (0, 0)) ∧ W.heap[s0 + 1 + 1 + 1 + 1 + 1]? = some (.cells #[.bool b] 4 (0, 0)) ∧ W.heap[s0 + 1 + 1 + 1 + 1 + 1 + 1]? = some (.cells #[.int .i64 0] 30 (0, 0))
def DW (s0 s1 k : Nat) : Prop := k = s0 + 1 + 1 + 1 ∨ k = s0 + 1 + 1 + 1 + 1 ∨ k = s0 + 1 + 1 + 1 + 1 + 1 ∨ k = s0 + 1 + 1 + 1 + 1 + 1 + 1 ∨ k = s1 + 1
def WI (m : Int) (ks : List Int) (g : List Hd) (t from_ : Int) (s0 s1 : Nat) (pre : List Int) (A : World) : Prop :=
  (∀ x ∈ pre, coverF m ks g t x = false) ∧ A.heap[s1 + 1]? = some (.cells #[.int .i64 (lastF from_ pre)] 3 (0, 0)) ∧ WRes s0 A (.slice none 0 0) 0 false
def WIx (m : Int) (ks : List Int) (g : List Hd) (t : Int) (s0 s2 : Nat) (c : Code) (pre : List Int) (A : World) : Prop :=
  c = .ret ∧ ∃ p x rv, pre = p ++ [x] ∧ (∀ y ∈ p, coverF m ks g t y = false) ∧ coverF m ks g t x = true ∧ WRes s0 A rv x true ∧
    A.ownsRow (s2 + 2) 3 1 rv (nearF ks t (rd_T61 g x).f1).length ((nearF ks t (rd_T61 g x).f1).map (Value.int .i64))
theorem C_blkI {w W : World} {A : Option Addr} {n : Nat} {xs : List Int} (h : Kd.C (Kd.int .i64) w A n xs) (hb : ∀ ad, A = some ad → 0 < n → W.heap[ad.block]? = w.heap[ad.block]?) : Kd.C (Kd.int .i64) W A n xs := by
  have hr : ReadsOf (Value.int .i64) (0 : Int) w A n xs := Kd.reads_of_C h
  refine Kd.C_of_reads (d := (0 : Int)) ⟨hr.1, hr.2.1, fun hn => ?_⟩
  obtain ⟨ad, e, hc⟩ := hr.2.2 hn
  refine ⟨ad, e, fun j hj => ?_⟩
  rw [← hc j hj]
  refine World.cell?_of_block (w := w) ?_
  have : (ad.add j).block = ad.block := by unfold Addr.add; split <;> rfl
  rw [this]
  exact hb ad e hn
theorem blk_of_R {w : World} {base : Nat} {A : Option Addr} {n c : Nat} {xs : List Int} {ok : Nat → Prop} (h : Kd.R (Kd.int .i64) 3 w base ok (.slice A n c) xs) : ∀ ad, A = some ad → 0 < n → base ≤ ad.block ∧ ad.block < w.heap.size := by
  rintro ad rfl _
  obtain ⟨inner, ho⟩ := Kd.R_own h
  exact ⟨own_base ho _ rfl, own_lt ho _ rfl⟩
theorem walkV_in {n : Nat} {ks : List Int} {g : List Hd} (hg : GoodG n g) (hk : ks.length = n) : ∀ (a : Int), 0 ≤ a → a < n → ∀ x ∈ walkV ks g a, 0 ≤ x ∧ x < n := by
  have main : ∀ (k : Nat) (a : Int), cntL ks a ≤ k → 0 ≤ a → a < n → ∀ x ∈ walkV ks g a, 0 ≤ x ∧ x < n := by
    intro k
    induction k with
    | zero =>
      intro a hc h0 h1 x hx
      rw [walkV] at hx
      split at hx
      · rename_i hh; have := cntL_lt ks a _ hh.2.1 hh.2.2 hh.1; omega
      · simp at hx; omega
    | succ k ih =>
      intro a hc h0 h1 x hx
      rw [walkV] at hx
      split at hx
      · rename_i hh
        have := cntL_lt ks a _ hh.2.1 hh.2.2 hh.1
        rcases List.mem_cons.1 hx with rfl | hx
        · omega
        · exact ih _ (by omega) hh.2.1 (by rw [← hk]; exact hh.2.2) x hx
      · simp at hx; omega
  exact fun a h0 h1 => main _ a (Nat.le_refl _) h0 h1
theorem World.heap_drew' (w : World) : w.drew.heap = w.heap := rfl
theorem results_cccc {P : Program} {fn : Func} {p1 p2 p3 p4 : Tmp} {t1 t2 t3 t4 : TypeId} (h : fn.results = #[.cell p1 t1, .cell p2 t2, .cell p3 t3, .cell p4 t4]) (tmps : Array Value) (w : World) (a1 a2 a3 a4 : Addr) (v1 v2 v3 v4 : Value)
    (h1 : tmps.getD p1 undef = .pointer (some a1)) (h2 : tmps.getD p2 undef = .pointer (some a2)) (h3 : tmps.getD p3 undef = .pointer (some a3)) (h4 : tmps.getD p4 undef = .pointer (some a4))
    (l1 : (loadVar t1 a1).run P w = .ok v1 w) (l2 : (loadVar t2 a2).run P w = .ok v2 w) (l3 : (loadVar t3 a3).run P w = .ok v3 w) (l4 : (loadVar t4 a4).run P w = .ok v4 w) :
    (results fn tmps).run P w = .ok (.tuple #[v1, v2, v3, v4]) w := by
  have h1' : tmps[p1]?.getD undef = .pointer (some a1) := by simpa using h1
  have h2' : tmps[p2]?.getD undef = .pointer (some a2) := by simpa using h2
  have h3' : tmps[p3]?.getD undef = .pointer (some a3) := by simpa using h3
  have h4' : tmps[p4]?.getD undef = .pointer (some a4) := by simpa using h4
  simp [results, h, h1', h2', h3', h4', asAddr, l1, l2, l3, l4]
theorem load_si (W : World) (a : Addr) (v : Value) (h : W.cell? a = some v) : (loadVar 26 a).run Tryz.prog W = .ok v W := by
  have := Tryz.underlying26
  go_simp
theorem load_i (W : World) (a : Addr) (v : Value) (h : W.cell? a = some v) : (loadVar 3 a).run Tryz.prog W = .ok v W := by
  have := Tryz.underlying3
  go_simp
theorem load_b (W : World) (a : Addr) (v : Value) (h : W.cell? a = some v) : (loadVar 4 a).run Tryz.prog W = .ok v W := by
  have := Tryz.underlying4
  go_simp
theorem load_e (W : World) (a : Addr) (v : Value) (h : W.cell? a = some v) : (loadVar 30 a).run Tryz.prog W = .ok v W := by
  have := Tryz.underlying30
  go_simp
theorem wres_run {fn : Func} {p1 p2 p3 p4 : Tmp} (h : fn.results = #[.cell p1 26, .cell p2 3, .cell p3 4, .cell p4 30]) (tmps : Array Value) (s0 : Nat) (W : World) (v : Value) (a : Int) (b : Bool) (hr : WRes s0 W v a b)
    (h1 : tmps.getD p1 undef = .pointer (some ⟨s0 + 1 + 1 + 1, 0, none⟩)) (h2 : tmps.getD p2 undef = .pointer (some ⟨s0 + 1 + 1 + 1 + 1, 0, none⟩)) (h3 : tmps.getD p3 undef = .pointer (some ⟨s0 + 1 + 1 + 1 + 1 + 1, 0, none⟩)) (h4 : tmps.getD p4 undef = .pointer (some ⟨s0 + 1 + 1 + 1 + 1 + 1 + 1, 0, none⟩)) :
    (results fn tmps).run Tryz.prog W = .ok (.tuple #[v, .int .i64 a, .bool b, .int .i64 0]) W :=
  results_cccc h tmps W _ _ _ _ _ _ _ _ h1 h2 h3 h4 (load_si _ _ _ (cell_of_blk hr.1)) (load_i _ _ _ (cell_of_blk hr.2.1)) (load_b _ _ _ (cell_of_blk hr.2.2.1)) (load_e _ _ _ (cell_of_blk hr.2.2.2))
theorem withinV_yes {m : Int} {ks : List Int} {g : List Hd} {from_ t x : Int} {p r : List Int} (hw : walkV ks g from_ = (p ++ [x]) ++ r) (h1 : ∀ y ∈ p, coverF m ks g t y = false) (h2 : coverF m ks g t x = true) : withinV m ks g from_ t = (nearF ks t (rd_T61 g x).f1, x, true) := by
  have : (walkV ks g from_).find? (coverF m ks g t) = some x := by
    rw [hw, List.append_assoc, List.find?_append, List.find?_eq_none.2 (fun y hy => by rw [h1 y hy]; simp)]
    simp [h2]
  unfold withinV; rw [this]
theorem withinV_no {m : Int} {ks : List Int} {g : List Hd} {from_ t : Int} (h1 : ∀ y ∈ walkV ks g from_, coverF m ks g t y = false) : withinV m ks g from_ t = ([], lastF from_ (walkV ks g from_), false) := by
  have : (walkV ks g from_).find? (coverF m ks g t) = none := List.find?_eq_none.2 (fun y hy => by rw [h1 y hy]; simp)
  unfold withinV; rw [this]
set_option maxHeartbeats 400000 in
set_option maxRecDepth 100000 in
theorem farC (Bs Bt : Nat) (A4 : Option Addr) (c4 : Nat) (ks : List Int) (t x : Int) (w : World) (h3 : w.cell? ⟨Bs, 3, none⟩ = some (.slice A4 ks.length c4)) (ht : w.cell? ⟨Bt, 0, none⟩ = some (.int .i64 t)) (hk : Kd.C (Kd.int .i64) w A4 ks.length ks) (hx0 : 0 ≤ x) (hx1 : x < ks.length) :
    Calls Tryz.prog 33 #[.int .i64 x, .pointer (some ⟨Bs, 0, none⟩), .pointer (some ⟨Bt, 0, none⟩)] w fun e w' => e = .returned (.bool (decide (rd ks x > t))) ∧ Drawn0 w w' := by
  obtain ⟨ad, rfl, hc⟩ := Kd.at_int hk x hx0 hx1
  have hu := Tryz.underlying65
  clear hk
  go_enter Tryz.func33, Tryz.ntmps33
  go_wp2
  go_quiet (fail)
  go_wp2
  go_ret
  exact ⟨ret_bool (by simp), ⟨_, rfl⟩⟩
set_option maxHeartbeats 1000000 in
set_option maxRecDepth 100000 in
theorem withinOkC (m : Int) (A1 : Option Addr) (c1 : Nat) (l : List (List Int)) (A2 : Option Addr) (c2 : Nat) (g : List Hd) (A3 : Option Addr) (c3 : Nat) (v : List Int) (from_ t : Int) (w : World) (hr1 : Kd.C (Kd.slice 3 (Kd.int .i64)) w A1 l.length l) (hc1 : l.length ≤ c1) (hr2 : Kd.C k61 w A2 g.length g) (hc2 : g.length ≤ c2) (hr3 : Kd.C (Kd.int .i64) w A3 v.length v) (hc3 : v.length ≤ c3) (hok : BegOk m l g v from_)
    (ht0 : 0 ≤ t) (ht1 : t ≤ 134217728) (hH : ∀ a : Int, 0 ≤ a → a < l.length → ∃ r, metric_High.f m (rd (keysV m l v) a) t = some r) :
    Calls Tryz.prog 10 #[.int .i64 m, .slice A1 l.length c1, .agg #[.slice A2 g.length c2], .slice A3 v.length c3, .int .i64 from_, .int .i64 t] w fun e w' => ∃ v0 : Value, e = .returned (.tuple #[v0, .int .i64 (withinV m (keysV m l v) g from_ t).2.1, .bool (withinV m (keysV m l v) g from_ t).2.2, .int .i64 0]) ∧ Kd.R (Kd.int .i64) 3 w' w.heap.size (fun _ => True) v0 (withinV m (keysV m l v) g from_ t).1 ∧ Below w.heap.size w w' := by
  have hu := Tryz.underlying65
  have hu2 := Tryz.underlying61
  have hu3 := Tryz.underlying25
  have HBg := Aside0.mk (fun W (hW : Below w.heap.size w W) => beginYes m A1 c1 l A2 c2 g A3 c3 v from_ W (Kd.C_below hr1 hW) hc1 (Kd.C_below hr2 hW) hc2 (Kd.C_below hr3 hW) hc3 hok.right hok.valid hok.one hok.alike hok.h0 hok.h1)
  have HG := Aside0.mk hr2
  have hkl := keysV_length m l v
  clear hr1 hr2 hr3
  generalize hks : keysV m l v = ks at HBg hkl hH ⊢
  have hok2 : GoodG ks.length g := by rw [hkl]; exact hok.good
  have h0 := hok.h0
  have h1 : from_ < ks.length := by rw [hkl]; exact hok.h1
  have hfew : ks.length ≤ 4096 := by rw [hkl]; exact hok.few
  have hH2 : ∀ a : Int, 0 ≤ a → a < ks.length → ∃ r, metric_High.f m (rd ks a) t = some r := by rw [hkl]; exact hH
  have HH := Aside0.mk hH2
  have HV := Aside0.mk hok2
  clear hks hok hok2 hkl hH hH2
  refine callsIn_wide (n := 0).1 ?_
  refine callsIn_of_wp_marks Tryz.func10 rfl trivial ?_ rfl
  simp only [Tryz.ntmps10, List.size_toArray, List.length_cons, List.length_nil, Nat.reduceAdd, Nat.reduceSub, Array.replicate_succ, Array.replicate_zero, List.push_toArray, List.append_toArray, List.nil_append, List.cons_append]
  have HBg2 := Aside0.mk (fun W (hW : Below w.heap.size w W) => (callsIn_wide (n := 0)).2 (HBg.out W hW))
  gi_wp2
  refine ⟨trivial, rfl, (HBg2.out _ (below_alloc (below_alloc (below_alloc (below_alloc (below_alloc (below_alloc (below_alloc (Below.refl _ w) _) _) _) _) _) _) _)).mono ?_⟩
  rintro e w1 ⟨A4, c4, rfl, hR, hb⟩
  have hsz := hb.size
  simp only [World.size_alloc] at hsz hR
  have HR := Aside0.mk (Kd.R_reads' hR).2.2
  have HA := Aside0.mk (blk_of_R hR)
  have HB := Aside0.mk (below_step (below_alloc (below_alloc (below_alloc (below_alloc (below_alloc (below_alloc (below_alloc (Below.refl _ w) _) _) _) _) _) _) _) hb)
  have X0 := blk_below (blk_alloc (blk_alloc (blk_alloc (blk_alloc (blk_alloc (blk_alloc (blk_new w (.cells #[.int .i64 m] 3)) _) _) _) _) _) _) hb
  have X1 := blk_below (blk_alloc (blk_alloc (blk_alloc (blk_alloc (blk_alloc (blk_new (w.alloc (.cells #[.int .i64 m] 3)) (.cells #[.slice A2 g.length c2] 25)) _) _) _) _) _) hb
  have X2 := blk_below (blk_alloc (blk_alloc (blk_alloc (blk_alloc (blk_new ((w.alloc (.cells #[.int .i64 m] 3)).alloc (.cells #[.slice A2 g.length c2] 25)) (.cells #[.int .i64 t] 3)) _) _) _) _) hb
  have X3 := blk_below (blk_alloc (blk_alloc (blk_alloc (blk_new (((w.alloc (.cells #[.int .i64 m] 3)).alloc (.cells #[.slice A2 g.length c2] 25)).alloc (.cells #[.int .i64 t] 3)) (.cells #[.slice none 0 0] 26)) _) _) _) hb
  have X4 := blk_below (blk_alloc (blk_alloc (blk_new ((((w.alloc (.cells #[.int .i64 m] 3)).alloc (.cells #[.slice A2 g.length c2] 25)).alloc (.cells #[.int .i64 t] 3)).alloc (.cells #[.slice none 0 0] 26)) (.cells #[.int .i64 0] 3)) _) _) hb
  have X5 := blk_below (blk_alloc (blk_new (((((w.alloc (.cells #[.int .i64 m] 3)).alloc (.cells #[.slice A2 g.length c2] 25)).alloc (.cells #[.int .i64 t] 3)).alloc (.cells #[.slice none 0 0] 26)).alloc (.cells #[.int .i64 0] 3)) (.cells #[.bool false] 4)) _) hb
  have X6 := blk_below (blk_new ((((((w.alloc (.cells #[.int .i64 m] 3)).alloc (.cells #[.slice A2 g.length c2] 25)).alloc (.cells #[.int .i64 t] 3)).alloc (.cells #[.slice none 0 0] 26)).alloc (.cells #[.int .i64 0] 3)).alloc (.cells #[.bool false] 4)) (.cells #[.int .i64 0] 30)) hb
  simp only [World.size_alloc] at X0 X1 X2 X3 X4 X5 X6
  have d2 : ∀ o, (w1.alloc o).cell? ⟨w.heap.size + 1 + 1, 0, none⟩ = some (.int .i64 t) := fun o => cell_of_blk (blk_alloc X2 o)
  have HX := Aside0.mk (And.intro X0 (And.intro X1 (And.intro X2 (And.intro X3 (And.intro X4 (And.intro X5 X6))))))
  clear hb hR HBg HBg2 X0 X1 X2 X3 X4 X5 X6
  unfold searchV
  gi_wp2
  have HW := Aside0.mk (fun W : World => (callsIn_wide (n := 0)).2 (walkC (.agg #[.int .i64 m, .slice A1 l.length c1, .slice A2 g.length c2, .slice A4 ks.length c4]) from_ W _ rfl rfl))
  refine ⟨trivial, rfl, (HW.out _).mono ?_⟩
  rintro e w2 ⟨rfl, hw2⟩
  simp only [World.size_alloc] at hw2 ⊢
  have hsz2 : w2.heap.size = (w1.heap.size + 1 + 1 + 1) + 1 := by rw [hw2]; simp
  have hb2 : Below w1.heap.size w1 w2 := by rw [hw2]; exact below_alloc (below_alloc (below_alloc (below_alloc (Below.refl _ w1) _) _) _) _
  obtain ⟨S, hS⟩ : ∃ S : Obj, S = .cells #[.int .i64 m, .slice A1 l.length c1, .slice A2 g.length c2, .slice A4 ks.length c4] 65 := ⟨_, rfl⟩
  obtain ⟨Fb, hFb⟩ : ∃ S : Obj, S = .cells #[.int .i64 from_] 3 := ⟨_, rfl⟩
  rw [← hS, ← hFb] at hw2
  have hp0 : w2.heap[w1.heap.size]? = some S := by
    rw [hw2]
    exact blk_alloc (blk_alloc (blk_alloc (blk_new w1 S) _) _) _
  have hp1 : w2.heap[w1.heap.size + 1]? = some Fb := by
    rw [hw2]
    have := blk_alloc (blk_alloc (blk_new (w1.alloc S) Fb) S) Fb
    simpa using this
  have hp2 : w2.heap[w1.heap.size + 1 + 1]? = some S := by
    rw [hw2]
    have := blk_alloc (blk_new ((w1.alloc S).alloc Fb) S) Fb
    simpa using this
  have hp3 : w2.heap[w1.heap.size + 1 + 1 + 1]? = some Fb := by
    rw [hw2]
    have := blk_new (((w1.alloc S).alloc Fb).alloc S) Fb
    simpa using this
  subst hS hFb
  clear hw2
  have HBZ := Aside0.mk (HB.out.trans (hb2.mono (show w.heap.size ≤ w1.heap.size by omega)))
  have HSQ := Aside0.mk (walk_seqD (DW w.heap.size w1.heap.size) m A1 l.length c1 A2 c2 g A4 c4 ks from_ (w1.heap.size + 1 + 1) (w1.heap.size + 1 + 1 + 1) w2 hp2 hp3 (by omega) hsz2 (fun h => by unfold DW at h; omega) (fun h => by unfold DW at h; omega)
    (fun W hW => Kd.C_below HG.out (HB.out.trans ((hb2.mono (by omega)).trans ((hW.mono (by omega)).below (fun k hk h => by unfold DW at h; omega)))))
    (fun W hW => C_blkI HR.out (fun ad hA hn => by have h1 := HA.out ad hA hn; exact (hW.block _ (by omega) (fun h => by unfold DW at h; omega)).trans (hb2.block _ (by omega)))) HV.out h0 h1)
  gi_wp2
  refine wp_rangeD (gf := 57) (lb := #[.pointer (some ⟨w1.heap.size + 1 + 1 + 1, 0, none⟩), .pointer (some ⟨w1.heap.size + 1 + 1, 0, none⟩)]) rfl (enters_of Tryz.func57 (by kernel_rfl) rfl) HSQ.out (Bx.refl _ _) (by omega) (by omega) (fun _ => rfl)
    (WI m ks g t from_ w.heap.size w1.heap.size) (WIx m ks g t w.heap.size w2.heap.size)
    ?fI ?fIx ?start (fun x a' _ => a' = { tmps := #[.int .i64 m, .slice A1 l.length c1, .agg #[.slice A2 g.length c2], .slice A3 v.length c3, .int .i64 from_, .int .i64 t, .pointer (some ⟨w.heap.size, 0, none⟩), undef, .pointer (some ⟨w.heap.size + 1, 0, none⟩), undef, undef, .pointer (some ⟨w.heap.size + 1 + 1, 0, none⟩), .pointer (some ⟨w.heap.size + 1 + 1 + 1, 0, none⟩), .pointer (some ⟨w.heap.size + 1 + 1 + 1 + 1, 0, none⟩), .pointer (some ⟨w.heap.size + 1 + 1 + 1 + 1 + 1, 0, none⟩), .pointer (some ⟨w.heap.size + 1 + 1 + 1 + 1 + 1 + 1, 0, none⟩), .pointer (some ⟨w1.heap.size, 0, none⟩), .bool true, .pointer (some ⟨w1.heap.size + 1, 0, none⟩), .int .i64 x, undef, undef, .tuple #[.agg #[.int .i64 m, .slice A1 l.length c1, .slice A2 g.length c2, .slice A4 ks.length c4], .bool true], .int .i64 m, .slice A1 l.length c1, .agg #[.slice A2 g.length c2], .slice A3 v.length c3, .int .i64 from_, .tuple #[.agg #[.int .i64 m, .slice A1 l.length c1, .slice A2 g.length c2, .slice A4 ks.length c4], .bool true], .agg #[.int .i64 m, .slice A1 l.length c1, .slice A2 g.length c2, .slice A4 ks.length c4], .bool true, .bool true, .bool false, .bool false, .int .i64 t, .bool (decide (t < 0)), .bool (decide (t < 0)), .bool (decide (t < 0)), .int .i64 t, .bool (decide (134217728 < t)), .bool (decide (t < 0) || decide (134217728 < t)), .int .i64 from_, .agg #[.int .i64 m, .slice A1 l.length c1, .slice A2 g.length c2, .slice A4 ks.length c4], .int .i64 from_, .func (.func 57) #[] #[.pointer (some ⟨w1.heap.size + 1 + 1 + 1, 0, none⟩), .pointer (some ⟨w1.heap.size + 1 + 1, 0, none⟩)], .int .i64 x, undef, undef, undef, undef, undef, undef, undef, undef, undef, undef, undef, undef, undef, undef, undef, undef, undef, undef, undef, undef, undef, undef, undef, undef], defers := [] }) (fun _ _ _ _ _ hs _ => hs)
    ?assign ?body ?done ?stop
  case fI =>
    rintro s A B ⟨h1, h2, h3, h4, h5, h6⟩ ⟨hbl, hm⟩
    exact ⟨h1, (hbl.block _ (by omega)).trans h2, (hbl.block _ (by omega)).trans h3, (hbl.block _ (by omega)).trans h4, (hbl.block _ (by omega)).trans h5, (hbl.block _ (by omega)).trans h6⟩
  case fIx =>
    rintro c s A B ⟨hc, p, x, rv, h1, h2, h3, ⟨h4, h5, h6, h7⟩, h8⟩ ⟨hbl, hm⟩
    exact ⟨hc, p, x, rv, h1, h2, h3, ⟨(hbl.block _ (by omega)).trans h4, (hbl.block _ (by omega)).trans h5, (hbl.block _ (by omega)).trans h6, (hbl.block _ (by omega)).trans h7⟩, own_move h8 fun k hk hl => hm k (by omega) hl (by omega) (by omega)⟩
  case start =>
    obtain ⟨_, _, _, h3, h4, h5, h6⟩ := HX.out
    exact ⟨by simp, hp1, blk_below h3 hb2, blk_below h4 hb2, blk_below h5 hb2, blk_below h6 hb2⟩
  case assign =>
    intro l_ pre x rest A K hxs hi hsz3 hb hK
    simp only [encI]
    gi_wp2
    exact hK _ _ (Below.refl _ _) rfl
  case body =>
    rintro l_ pre x rest a' A hxs ⟨hcov, hL, hq3, hq4, hq5, hq6⟩ rfl hsz3 hb
    obtain ⟨hx0, hx1⟩ := walkV_in HV.out rfl from_ h0 h1 x (by rw [hxs]; simp)
    have hff := frozen_of_blk hL
    have hcl := cell_of_blk hL
    gi_upto_region 8 with (fail)
    have hbn : Bx (DW w.heap.size w1.heap.size) (w1.heap.size + 1 + 1 + 1) w2 (A.setCell ⟨w1.heap.size + 1, 0, none⟩ (.int .i64 x)) := hb.set (p := ⟨w1.heap.size + 1, 0, none⟩) (.inr (by simp [DW])) _
    have HAN := Aside0.mk ((Bx.refl (D := DW w.heap.size w1.heap.size) (w1.heap.size + 1 + 1 + 1 + 1) A).set (p := ⟨w1.heap.size + 1, 0, none⟩) (.inr (by simp [DW])) (.int .i64 x))
    have hLn := blk_put hL 0 (.int .i64 x) rfl
    have hsn : (A.setCell ⟨w1.heap.size + 1, 0, none⟩ (.int .i64 x)).heap.size = A.heap.size := by simp
    have hoth : ∀ k, k ≠ w1.heap.size + 1 → (A.setCell ⟨w1.heap.size + 1, 0, none⟩ (.int .i64 x)).heap[k]? = A.heap[k]? := fun k hk => Below.heap_setCell _ _ _ _ hk
    generalize A.setCell ⟨w1.heap.size + 1, 0, none⟩ (.int .i64 x) = Wn at hbn hLn hsn hoth HAN ⊢
    have HO := Aside0.mk hoth
    have HL := Aside0.mk hLn
    have HQ := Aside0.mk (show WRes w.heap.size Wn (.slice none 0 0) 0 false from ⟨(hoth _ (by omega)).trans hq3, (hoth _ (by omega)).trans hq4, (hoth _ (by omega)).trans hq5, (hoth _ (by omega)).trans hq6⟩)
    have HBN := Aside0.mk hbn
    have HCOV := Aside0.mk hcov
    have HXS := Aside0.mk hxs
    have hbw := HB.out.trans ((hb2.mono (show w.heap.size ≤ w1.heap.size by omega)).trans ((hbn.mono (by omega)).below (fun k hk h => by unfold DW at h; omega)))
    obtain ⟨X0, X1, X2, _⟩ := HX.out
    have hk2 : ∀ k, k < w1.heap.size → ¬ DW w.heap.size w1.heap.size k → Wn.heap[k]? = w1.heap[k]? := fun k hk hd => (hbn.block k (by omega) hd).trans (hb2.block k hk)
    have y0 := cell_of_blk ((hk2 w.heap.size (by omega) (by unfold DW; omega)).trans X0)
    have y1 := cell_of_blk ((hk2 (w.heap.size + 1) (by omega) (by unfold DW; omega)).trans X1)
    have y2 := cell_of_blk ((hk2 (w.heap.size + 1 + 1) (by omega) (by unfold DW; omega)).trans X2)
    have YS := (hbn.block w1.heap.size (by omega) (by unfold DW; omega)).trans hp0
    have y3 : Wn.cell? ⟨w1.heap.size, 3, none⟩ = some (.slice A4 ks.length c4) := by simp [World.cell?, YS]
    obtain ⟨ad, A1', c1', hA2, q0, q1, hl1, hC1⟩ := at_T61 (Kd.C_below HG.out hbw) x hx0 (by rw [HV.out.1]; exact hx1)
    subst hA2
    obtain ⟨ak, hA4, q2⟩ := Kd.at_int (C_blkI (W := Wn) HR.out (fun ad hA hn => hk2 _ (HA.out ad hA hn).2 (fun h => by have := HA.out ad hA hn; unfold DW at h; omega))) x hx0 hx1
    have hgl : x < (g.length : Int) := by rw [HV.out.1]; exact hx1
    obtain ⟨r, hr⟩ := HH.out x hx0 hx1
    have HYS := Aside0.mk YS
    have HY2 := Aside0.mk ((hk2 (w.heap.size + 1 + 1) (by omega) (by unfold DW; omega)).trans X2)
    have HC1 := Aside0.mk hC1
    have HBW := Aside0.mk hbw
    have HKS := Aside0.mk (C_blkI (W := Wn) HR.out (fun ad hA hn => hk2 _ (HA.out ad hA hn).2 (fun h => by have := HA.out ad hA hn; unfold DW at h; omega)))
    have hcv : coverF m ks g t x = decide (r ≤ (rd_T61 g x).f0) := by unfold coverF; rw [hr]
    have HCV := Aside0.mk hcv
    clear hoth hLn hbn hcov hxs hC1 hbw hk2 YS X0 X1 X2 hff hcl hL hq3 hq4 hq5 hq6 d2 hcv hp0 hp1 hp2 hp3
    have hsn1 : A.heap.size ≤ Wn.heap.size := by omega
    have hsn2 : Wn.heap.size ≤ A.heap.size := by omega
    clear hsn
    gi_upto_region 9 with (fail)
    have hbm := below_alloc (Below.refl Wn.heap.size Wn) (.cells #[.int .i64 (rd_T61 g x).f0, .slice A1' (rd_T61 g x).f1.length c1'] 61)
    have hnm := blk_new Wn (.cells #[.int .i64 (rd_T61 g x).f0, .slice A1' (rd_T61 g x).f1.length c1'] 61)
    have hsm : (Wn.alloc (.cells #[.int .i64 (rd_T61 g x).f0, .slice A1' (rd_T61 g x).f1.length c1'] 61)).heap.size = Wn.heap.size + 1 := by simp
    generalize (Wn.alloc (.cells #[.int .i64 (rd_T61 g x).f0, .slice A1' (rd_T61 g x).f1.length c1'] 61)) = Wm at hbm hnm hsm ⊢
    have k0 := cell_regrown ((hbm.cell (World.block_lt_of_cell? _ _ y0)).trans y0)
    have k2 := cell_regrown ((hbm.cell (World.block_lt_of_cell? _ _ y2)).trans y2)
    have k3 := cell_regrown ((hbm.cell (World.block_lt_of_cell? _ _ y3)).trans y3)
    subst hA4
    have k4 := cell_regrown ((hbm.cell (World.block_lt_of_cell? _ _ q2)).trans q2)
    have k5 : ∀ d os, (grow (redrawn Wm d) os).cell? ⟨Wn.heap.size, 0, none⟩ = some (.int .i64 (rd_T61 g x).f0) := cell_regrown (by simp [World.cell?, hnm])
    have cC : ∀ d os, CallsIn (Fence.wide.inRound l_) 0 Tryz.prog 17 #[.int .i64 m, .int .i64 (rd ks x), .int .i64 t, .int .i64 (rd_T61 g x).f0] (grow (redrawn Wm d) os) fun e w'' => e = .returned (.bool (decide (r ≤ (rd_T61 g x).f0))) ∧ ∃ p : Regrown, w'' = grow (redrawn Wm p.d) p.os := fun d os => CallsIn.regrown_of (callsIn_wide.2 (coversC m (rd ks x) t _ r _ hr))
    have HBM := Aside0.mk hbm
    have HNM := Aside0.mk hnm
    clear y0 y1 y2 y3 q0 q1 q2 hbm hnm hr
    refine region_quiet_below (by kernel_rfl) (by kernel_rfl) (by kernel_rfl) ?_
    repeat (refine wpQuietIn_step (fun _ _ _ _ => trivial) (fun K hK => ?_); go_simp; first | (refine hK _ ?_; clear hK K) | (apply Exists.intro; refine ⟨fun _ => ?_, hK _ ?_⟩; (exact ⟨rfl, cC _ _⟩); clear hK K))
    refine wpQuietIn_nil ?_
    intro _ hw'
    obtain ⟨⟨dq, osq⟩, hw''⟩ := hw'
    subst hw''
    have hbq := below_regrown Wm dq osq
    generalize grow (redrawn Wm dq) osq = Wq at hbq ⊢
    clear k0 k2 k3 k4 k5 cC
    have hsq := hbq.size
    have hbnq : Below Wn.heap.size Wn Wq := HBM.out.trans (hbq.mono (by omega))
    have HNQ := Aside0.mk (blk_below HNM.out hbq)
    have HLQ := Aside0.mk (blk_below HL.out hbnq)
    obtain ⟨z3, z4, z5, z6⟩ := HQ.out
    have Z3 := blk_below z3 hbnq
    have Z4 := blk_below z4 hbnq
    have Z5 := blk_below z5 hbnq
    have Z6 := blk_below z6 hbnq
    clear z3 z4 z5 z6
    have HBQ := Aside0.mk hbnq
    have hAq : ∀ k, k < A.heap.size → k ≠ w1.heap.size + 1 → Wq.heap[k]? = A.heap[k]? := fun k hk hne => (hbnq.block k (by omega)).trans (HO.out k hne)
    have HAQ := Aside0.mk hAq
    clear hbnq hbq hAq
    by_cases hle : r ≤ (rd_T61 g x).f0
    · have HC2 := Aside0.mk (show coverF m ks g t x = true by rw [HCV.out]; simpa using hle)
      have u0 : Wq.cell? ⟨Wn.heap.size, 1, none⟩ = some (.slice A1' (rd_T61 g x).f1.length c1') := by simp [World.cell?, HNQ.out]
      have HCL := Aside0.mk (fun (h : (rd_T61 g x).f1.length < 17592186044416) => (callsIn_wide (n := 0)).2 (slices_Clone_int_int.calls A1' c1' (rd_T61 g x).f1 (rd_T61 g x).f1 Wq (Kd.C_below HC1.out HBQ.out) hl1 (by unfold slices_Clone_int_int.f; rw [if_pos h])))
      obtain ⟨hs1, hs2, hs3⟩ := HV.out.2 _ (rd_T_mem (g := g) hx0 hgl)
      have HS3 := Aside0.mk hs3
      clear hs3
      gi_wp2
      refine ⟨trivial, rfl, (HCL.out (by omega)).mono ?_⟩
      rintro e w3 ⟨v3, rfl, hR3, hb3⟩
      have ho3 := Kd.own_of_R hR3
      obtain ⟨g3, cap3, hv3⟩ : ∃ g3 cap3, v3 = .slice (some ⟨g3, 0, none⟩) (rd_T61 g x).f1.length cap3 := by
        rcases ho3.2 with ⟨_, h0⟩ | ⟨g', cap', cur, rfl, hbase, hb, h1, h2, h3, h4⟩
        · omega
        · exact ⟨_, _, rfl⟩
      subst hv3
      have hPC : PredC 33 #[.pointer (some ⟨w1.heap.size, 0, none⟩), .pointer (some ⟨w.heap.size + 1 + 1, 0, none⟩)] (fun y => decide (rd ks y > t)) Wq.heap.size (rd_T61 g x).f1 w3 := fun W hW y hy => by
        obtain ⟨hy0, hy1⟩ := HS3.out y hy
        have hbW := HBQ.out.trans ((hb3.trans hW).mono (show Wn.heap.size ≤ Wq.heap.size by omega))
        have e3 := blk_below HYS.out hbW
        refine farC _ _ (some ak) c4 ks t y W ?_ (cell_of_blk (blk_below HY2.out hbW)) (Kd.C_below HKS.out hbW) hy0 hy1
        simp [World.cell?, e3]
      have HD := Aside0.mk ((callsIn_wide (n := 0)).2 (deleteC 33 _ _ _ rfl (enters_of Tryz.func33 (by kernel_rfl) rfl) _ Wq.heap.size g3 cap3 (rd_T61 g x).f1 w3 ho3 hPC))
      have HB3 := Aside0.mk hb3
      have hs5 := hb3.size
      clear hR3 ho3 hPC hb3 HCL
      gi_wp2
      refine ⟨trivial, rfl, HD.out.mono ?_⟩
      rintro e w4 ⟨rv, rfl, ho4, hb4⟩
      obtain ⟨Ar, cr, rfl⟩ := own_slice ho4
      have hb5 := HB3.out.trans (hb4.mono (Nat.le_refl _))
      have V3 := blk_below Z3 hb5
      have V4 := blk_below Z4 hb5
      have V5 := blk_below Z5 hb5
      have V6 := blk_below Z6 hb5
      have HB5 := Aside0.mk hb5
      have HO4 := Aside0.mk ho4
      have hs6 := hb5.size
      clear hb5 hb4 ho4 HD Z3 Z4 Z5 Z6
      have a3 := cell_of_blk V3
      have a4 := cell_of_blk V4
      have a5 := cell_of_blk V5
      have a6 := cell_of_blk V6
      have b3 := frozen_of_blk V3
      have b4 := frozen_of_blk V4
      have b5 := frozen_of_blk V5
      have b6 := frozen_of_blk V6
      have HVV := Aside0.mk (And.intro V3 (And.intro V4 (And.intro V5 V6)))
      clear V3 V4 V5 V6
      gi_wp2
      obtain ⟨V3, V4, V5, V6⟩ := HVV.out
      have hset : ∀ k, k ≠ w.heap.size + 1 + 1 + 1 → k ≠ w.heap.size + 1 + 1 + 1 + 1 → k ≠ w.heap.size + 1 + 1 + 1 + 1 + 1 → k ≠ w.heap.size + 1 + 1 + 1 + 1 + 1 + 1 → ((((w4.setCell ⟨w.heap.size + 1 + 1 + 1, 0, none⟩ (.slice Ar (nearF ks t (rd_T61 g x).f1).length cr)).setCell ⟨w.heap.size + 1 + 1 + 1 + 1, 0, none⟩ (.int .i64 x)).setCell ⟨w.heap.size + 1 + 1 + 1 + 1 + 1, 0, none⟩ (.bool true)).setCell ⟨w.heap.size + 1 + 1 + 1 + 1 + 1 + 1, 0, none⟩ (.int .i64 0)).heap[k]? = w4.heap[k]? := fun k n3 n4 n5 n6 => by
        rw [Below.heap_setCell _ _ _ _ n6, Below.heap_setCell _ _ _ _ n5, Below.heap_setCell _ _ _ _ n4, Below.heap_setCell _ _ _ _ n3]
      have hr1 : ∀ k, w2.heap.size ≤ k → k < A.heap.size → k ≠ w1.heap.size + 1 → w4.heap[k]? = A.heap[k]? := fun k h1 h2 h3 => (HB5.out.block k (by omega)).trans (HAQ.out k h2 h3)
      refine ⟨⟨?_, (hset _ (by omega) (by omega) (by omega) (by omega)).trans (hr1 _ (by omega) (by omega) (by omega)), (hset _ (by omega) (by omega) (by omega) (by omega)).trans (hr1 _ (by omega) (by omega) (by omega))⟩, rfl, pre, x, .slice Ar (nearF ks t (rd_T61 g x).f1).length cr, rfl, HCOV.out, HC2.out, ⟨?_, ?_, ?_, ?_⟩, ?_⟩
      · have e3 : DW w.heap.size w1.heap.size (w.heap.size + 1 + 1 + 1) := by unfold DW; omega
        have e4 : DW w.heap.size w1.heap.size (w.heap.size + 1 + 1 + 1 + 1) := by unfold DW; omega
        have e5 : DW w.heap.size w1.heap.size (w.heap.size + 1 + 1 + 1 + 1 + 1) := by unfold DW; omega
        have e6 : DW w.heap.size w1.heap.size (w.heap.size + 1 + 1 + 1 + 1 + 1 + 1) := by unfold DW; omega
        have q0 := (HAN.out.trans (Bx.of (HBQ.out.mono (by omega)))).trans (Bx.of (HB5.out.mono (by omega)))
        have q1 := q0.set (p := ⟨w.heap.size + 1 + 1 + 1, 0, none⟩) (Or.inr e3) (.slice Ar (nearF ks t (rd_T61 g x).f1).length cr)
        have q2 := q1.set (p := ⟨w.heap.size + 1 + 1 + 1 + 1, 0, none⟩) (Or.inr e4) (.int .i64 x)
        have q3 := q2.set (p := ⟨w.heap.size + 1 + 1 + 1 + 1 + 1, 0, none⟩) (Or.inr e5) (.bool true)
        exact q3.set (p := ⟨w.heap.size + 1 + 1 + 1 + 1 + 1 + 1, 0, none⟩) (Or.inr e6) (.int .i64 0)
      · rw [Below.heap_setCell _ _ _ _ (by simp <;> omega), Below.heap_setCell _ _ _ _ (by simp <;> omega), Below.heap_setCell _ _ _ _ (by simp <;> omega)]
        exact blk_put V3 0 _ rfl
      · rw [Below.heap_setCell _ _ _ _ (by simp <;> omega), Below.heap_setCell _ _ _ _ (by simp <;> omega)]
        exact blk_put ((Below.heap_setCell _ _ _ _ (by simp <;> omega)).trans V4) 0 _ rfl
      · rw [Below.heap_setCell _ _ _ _ (by simp <;> omega)]
        exact blk_put ((Below.heap_setCell _ _ _ _ (by simp <;> omega)).trans ((Below.heap_setCell _ _ _ _ (by simp <;> omega)).trans V5)) 0 _ rfl
      · exact blk_put ((Below.heap_setCell _ _ _ _ (by simp <;> omega)).trans ((Below.heap_setCell _ _ _ _ (by simp <;> omega)).trans ((Below.heap_setCell _ _ _ _ (by simp <;> omega)).trans V6))) 0 _ rfl
      · exact own_lower (own_move HO4.out fun k hk _ => hset k (by omega) (by omega) (by omega) (by omega)) (by omega)
    · have HC2 := Aside0.mk (show coverF m ks g t x = false by rw [HCV.out]; simpa using hle)
      have HZ := Aside0.mk (And.intro Z3 (And.intro Z4 (And.intro Z5 Z6)))
      clear Z3 Z4 Z5 Z6
      gi_wp2
      refine ⟨⟨HAN.out.trans (Bx.of (HBQ.out.mono (by omega))), HAQ.out _ (by omega) (by omega), HAQ.out _ (by omega) (by omega)⟩, ?_, ?_, HZ.out⟩
      · intro y hy
        rcases List.mem_append.1 hy with hy | hy
        · exact HCOV.out y hy
        · rw [List.mem_singleton.1 hy]; exact HC2.out
      · have e : lastF from_ (pre ++ [x]) = x := by simp [lastF]
        rw [e]; exact HLQ.out
  case done =>
    rintro W ⟨hcov, hL, hq3, hq4, hq5, hq6⟩ hb hK
    have a0 := cell_of_blk hL
    have a3 := cell_of_blk hq3
    have a4 := cell_of_blk hq4
    have a5 := cell_of_blk hq5
    have a6 := cell_of_blk hq6
    have b3 := frozen_of_blk hq3
    have b4 := frozen_of_blk hq4
    have b5 := frozen_of_blk hq5
    have b6 := frozen_of_blk hq6
    have HB7 := Aside0.mk hb
    have HCV := Aside0.mk hcov
    have HQ := Aside0.mk (And.intro hq3 (And.intro hq4 (And.intro hq5 hq6)))
    have HKK := Aside0.mk hK
    clear hb hcov hq3 hq4 hq5 hq6 hL hK d2 hp0 hp1 hp2 hp3 hb2
    gi_upto_region 12 with (fail)
    gi_region
    gi_wp2
    generalize hWd : ((((W.setCell ⟨w.heap.size + 1 + 1 + 1, 0, none⟩ (.slice none 0 0)).setCell ⟨w.heap.size + 1 + 1 + 1 + 1, 0, none⟩ (.int .i64 (lastF from_ (walkV ks g from_)))).setCell ⟨w.heap.size + 1 + 1 + 1 + 1 + 1, 0, none⟩ (.bool false)).setCell ⟨w.heap.size + 1 + 1 + 1 + 1 + 1 + 1, 0, none⟩ (.int .i64 0)).drew = Wd
    obtain ⟨V3, V4, V5, V6⟩ := HQ.out
    have hset : ∀ k, k ≠ w.heap.size + 1 + 1 + 1 → k ≠ w.heap.size + 1 + 1 + 1 + 1 → k ≠ w.heap.size + 1 + 1 + 1 + 1 + 1 → k ≠ w.heap.size + 1 + 1 + 1 + 1 + 1 + 1 → Wd.heap[k]? = W.heap[k]? := fun k n3 n4 n5 n6 => by
      rw [← hWd, World.heap_drew', Below.heap_setCell _ _ _ _ n6, Below.heap_setCell _ _ _ _ n5, Below.heap_setCell _ _ _ _ n4, Below.heap_setCell _ _ _ _ n3]
    have hw2 : w2.heap.size ≤ W.heap.size := HB7.out.size
    have hbd : Below w.heap.size W Wd := by
      rw [← hWd]
      exact below_drew (((((Below.refl _ W).setCell (p := ⟨w.heap.size + 1 + 1 + 1, 0, none⟩) (by simp; omega) _).setCell (p := ⟨w.heap.size + 1 + 1 + 1 + 1, 0, none⟩) (by simp; omega) _).setCell (p := ⟨w.heap.size + 1 + 1 + 1 + 1 + 1, 0, none⟩) (by simp; omega) _).setCell (p := ⟨w.heap.size + 1 + 1 + 1 + 1 + 1 + 1, 0, none⟩) (by simp; omega) _)
    have hsW : W.heap.size ≤ Wd.heap.size := hbd.size
    have hr : WRes w.heap.size Wd (.slice none 0 0) (lastF from_ (walkV ks g from_)) false := by
      refine ⟨?_, ?_, ?_, ?_⟩
      · rw [← hWd, World.heap_drew', Below.heap_setCell _ _ _ _ (by simp <;> omega), Below.heap_setCell _ _ _ _ (by simp <;> omega), Below.heap_setCell _ _ _ _ (by simp <;> omega)]
        exact blk_put V3 0 _ rfl
      · rw [← hWd, World.heap_drew', Below.heap_setCell _ _ _ _ (by simp <;> omega), Below.heap_setCell _ _ _ _ (by simp <;> omega)]
        exact blk_put ((Below.heap_setCell _ _ _ _ (by simp <;> omega)).trans V4) 0 _ rfl
      · rw [← hWd, World.heap_drew', Below.heap_setCell _ _ _ _ (by simp <;> omega)]
        exact blk_put ((Below.heap_setCell _ _ _ _ (by simp <;> omega)).trans ((Below.heap_setCell _ _ _ _ (by simp <;> omega)).trans V5)) 0 _ rfl
      · rw [← hWd, World.heap_drew']
        exact blk_put ((Below.heap_setCell _ _ _ _ (by simp <;> omega)).trans ((Below.heap_setCell _ _ _ _ (by simp <;> omega)).trans ((Below.heap_setCell _ _ _ _ (by simp <;> omega)).trans V6))) 0 _ rfl
    have hK3 := (hset w2.heap.size (by omega) (by omega) (by omega) (by omega)).trans HKK.out
    clear hWd
    refine ⟨by simp, .inl ⟨_, _, rfl, run_takeDeferred hK3, ?_⟩⟩
    have hput : ∀ k, k ≠ w2.heap.size → (Wd.putObj w2.heap.size (Obj.deferred none)).heap[k]? = Wd.heap[k]? := fun k hk => World.putObj_heap_other (by omega)
    rw [withinV_no HCV.out]
    obtain ⟨V3, V4, V5, V6⟩ := hr
    refine ⟨_, wres_run rfl _ w.heap.size _ (.slice none 0 0) (lastF from_ (walkV ks g from_)) false ⟨(hput _ (by omega)).trans V3, (hput _ (by omega)).trans V4, (hput _ (by omega)).trans V5, (hput _ (by omega)).trans V6⟩ rfl rfl rfl rfl, _, rfl, Kd.R_nil _ _ _ _ _, ?_⟩
    have hbz : Below w.heap.size w2 W := (HB7.out.mono (by omega)).below (fun k hk h => by unfold DW at h; omega)
    exact ((HBZ.out.trans hbz).trans hbd).trans (putObj_below _ _ (by omega))
  case stop =>
    rintro c pre W hpre ⟨rfl, p, x, rv, h1, h2, h3, ⟨h4, h5, h6, h7⟩, h8⟩ hb hK
    have HB7 := Aside0.mk hb
    have HQ := Aside0.mk (And.intro h4 (And.intro h5 (And.intro h6 h7)))
    have HKK := Aside0.mk hK
    clear hb h4 h5 h6 h7 hK d2 hp0 hp1 hp2 hp3 hb2
    gi_wp2
    refine ⟨by simp, .inl ⟨_, _, rfl, run_takeDeferred HKK.out, ?_⟩⟩
    obtain ⟨pr, hpr⟩ := hpre
    obtain ⟨V3, V4, V5, V6⟩ := HQ.out
    have hw2 : w2.heap.size ≤ W.heap.size := HB7.out.size
    have hput : ∀ k, k ≠ w2.heap.size → (W.putObj w2.heap.size (Obj.deferred none)).heap[k]? = W.heap[k]? := fun k hk => World.putObj_heap_other (by omega)
    have hE := withinV_yes (m := m) (ks := ks) (g := g) (from_ := from_) (t := t) (x := x) (p := p) (r := pr) (by rw [← h1]; exact hpr.symm) h2 h3
    rw [hE]
    refine ⟨_, wres_run rfl _ w.heap.size _ rv x true ⟨(hput _ (by omega)).trans V3, (hput _ (by omega)).trans V4, (hput _ (by omega)).trans V5, (hput _ (by omega)).trans V6⟩ rfl rfl rfl rfl, _, rfl, ?_, ?_⟩
    · exact Kd.R_of_own (enc := Value.int .i64) (h1 := fun _ => rfl) (own_lower (own_move h8 fun k hk _ => hput k (by omega)) (by omega)) (fun _ _ => trivial)
    · have hbz : Below w.heap.size w2 W := (HB7.out.mono (by omega)).below (fun k hk h => by unfold DW at h; omega)
      exact (HBZ.out.trans hbz).trans (putObj_below _ _ (by omega))
def swapL (xs : List Int) (j : Nat) : List Int := (xs.set (j + 1) (rd xs j)).set j (rd xs ((j : Int) + 1))
def insJ (F : Int → Int → Int) (a : Nat) : Nat → List Int → List Int
  | 0, xs => xs
  | k + 1, xs => if F (rd xs ((a + k : Nat) + 1)) (rd xs (a + k : Nat)) < 0 then insJ F a k (swapL xs (a + k)) else xs
def insTo (F : Int → Int → Int) (a : Nat) : Nat → List Int → List Int
  | 0, xs => xs
  | d + 1, xs => insJ F a (d + 1) (insTo F a d xs)
theorem swapL_length (xs : List Int) (j : Nat) : (swapL xs j).length = xs.length := by simp [swapL]
theorem swapL_mem {xs : List Int} {j : Nat} (h : j + 1 < xs.length) : ∀ x ∈ swapL xs j, x ∈ xs := by
  intro x hx
  unfold swapL at hx
  rcases List.mem_or_eq_of_mem_set hx with hx | rfl
  · rcases List.mem_or_eq_of_mem_set hx with hx | rfl
    · exact hx
    · exact rd_mem' xs j (by omega)
  · exact rd_mem' xs (j + 1) h
def OrdB (g : Nat) (recv : Value) (n : Nat) (F : Int → Int → Int) (base : Nat) (w : World) : Prop :=
  ∀ W, Below base w W → ∀ a b, 0 ≤ a ∧ a < (n : Int) → 0 ≤ b ∧ b < (n : Int) → Calls Tryz.prog g #[recv, .int .i64 a, .int .i64 b] W fun e w' => e = .returned (.int .i64 (F a b)) ∧ Below W.heap.size W w'
theorem OrdB.move {g : Nat} {recv : Value} {n : Nat} {F : Int → Int → Int} {base : Nat} {w W : World} (h : OrdB g recv n F base w) (hb : Below base w W) : OrdB g recv n F base W := fun W' hW => h W' (hb.trans hW)
def Row (g cap base : Nat) (xs : List Int) (w : World) : Prop := w.ownsRow base 3 1 (.slice (some ⟨g, 0, none⟩) xs.length cap) xs.length (nums .i64 xs)
set_option maxHeartbeats 2000000 in
set_option maxRecDepth 100000 in
theorem insC (recv : Value) (n : Nat) (F : Int → Int → Int) (base g cap : Nat) (xs : List Int) (a d : Nat) (w : World) (hO : OrdB 37 recv n F base w) (hR : Row g cap base xs w) (hin : ∀ x ∈ xs, 0 ≤ x ∧ x < (n : Int)) (hd : a + d + 1 ≤ xs.length) (hs : xs.length ≤ 9223372036854775807) :
    Calls Tryz.prog 89 #[.slice (some ⟨g, 0, none⟩) xs.length cap, .int .i64 a, .int .i64 ((a : Int) + (d : Int) + 1), .func (.func 37) #[recv] #[]] w fun e w' => (∃ v, e = .returned v) ∧ Row g cap base (insTo F a d xs) w' ∧ Below base w w' := by
  have hbg := own_base hR g rfl
  have hlg := own_lt hR g rfl
  have HO := Aside0.mk hO
  have HR := Aside0.mk hR
  have HI := Aside0.mk hin
  clear hO hR hin
  refine callsIn_wide (n := 0).1 ?_
  refine callsIn_of_wp Tryz.func89 rfl trivial ?_ rfl
  simp only [Tryz.ntmps89, List.size_toArray, List.length_cons, List.length_nil, Nat.reduceAdd, Nat.reduceSub, Array.replicate_succ, Array.replicate_zero, List.push_toArray, List.append_toArray, List.nil_append, List.cons_append]
  gi_wp2
  gi_loopw [8, 9] (fun i _ wr => ∃ (e : Nat) (cur : List Int), e ≤ d ∧ i = .int .i64 ((a : Int) + (e : Int) + 1) ∧ cur.length ≤ xs.length ∧ xs.length ≤ cur.length ∧ Aside0 (cur = insTo F a e xs) ∧ Aside0 (∀ x ∈ cur, 0 ≤ x ∧ x < (n : Int)) ∧ Aside0 (Row g cap base cur wr) ∧ Aside0 (Below base w wr)) (fun i _ _ => a + d + 1 - (intOf i).toNat)
  case atStart => exact ⟨0, xs, by omega, by go_num, Nat.le_refl _, Nat.le_refl _, ⟨rfl⟩, HI, HR, ⟨Below.refl _ _⟩⟩
  case round =>
    obtain ⟨e, cur, he, rfl, hc1, hc2, HC, HM, HRW, HB⟩ := hrel
    by_cases hlt : e < d
    · gi_wp2
      gi_loopw [9] (fun i wr2 => ∃ (k : Nat) (c2 : List Int), k ≤ e + 1 ∧ i = .int .i64 ((a : Int) + (k : Int)) ∧ c2.length ≤ xs.length ∧ xs.length ≤ c2.length ∧ Aside0 (insJ F a k c2 = insJ F a (e + 1) cur) ∧ Aside0 (∀ x ∈ c2, 0 ≤ x ∧ x < (n : Int)) ∧ Aside0 (Row g cap base c2 wr2) ∧ Aside0 (Below base w wr2)) (fun i _ => (intOf i).toNat - a)
      case atStart => exact ⟨e + 1, cur, Nat.le_refl _, rfl, hc1, hc2, ⟨rfl⟩, HM, HRW, HB⟩
      case round =>
        obtain ⟨k, c2, hk, rfl, hd1, hd2, HT, HM2, HRW2, HB2⟩ := hrel
        clear HM HRW HB
        cases k with
        | zero =>
          gi_wp2
          refine region_quiet_below (by kernel_rfl) (by kernel_rfl) (by kernel_rfl) ?_
          repeat (refine wpQuietIn_step (fun _ _ _ _ => trivial) (fun K hK => ?_); go_simp; first | (refine hK _ ?_; clear hK K))
          refine wpQuietIn_nil ?_
          intro _ hw'
          obtain ⟨⟨dq, osq⟩, hw''⟩ := hw'
          subst hw''
          have hbr := below_regrown wr dq osq
          have hws := HB2.out.size
          gi_wp2
          refine ⟨⟨e + 1, c2, by omega, by go_num, hd1, hd2, ⟨?_⟩, HM2, ⟨pw_own_below HRW2.out hbr⟩, ⟨HB2.out.trans (hbr.mono (by omega))⟩⟩, by simp [intOf]; omega⟩
          show c2 = insJ F a (e + 1) (insTo F a e xs)
          rw [← HC.out, ← HT.out]; rfl
        | succ k =>
          have hkx : a + k + 1 < c2.length := by omega
          obtain ⟨J, hJ⟩ : ∃ J : Int, J = (a : Int) + ((k + 1 : Nat) : Int) := ⟨_, rfl⟩
          rw [← hJ]
          obtain ⟨I, hI⟩ : ∃ I : Int, I = J - 1 := ⟨_, rfl⟩
          have hja : J.toNat = a + k + 1 := by omega
          have hjb : I.toNat = a + k := by omega
          have hJ0 : (a : Int) < J := by omega
          have hJ0' : 0 ≤ J := by omega
          have hJ0'' : 0 ≤ I := by omega
          have hJ1 : J < (xs.length : Int) := by omega
          have hJ1' : I < (xs.length : Int) := by omega
          have hJw : IntKind.i64.wrap (J - 1) = I := by rw [hI]; exact IntWalk.i64_in (J - 1) (by omega)
          have hdg : decide ((a : Int) < J) = true := by simpa using hJ0
          obtain ⟨q1, f1⟩ := own_at HRW2.out J (by omega) (by omega)
          obtain ⟨q2, f2⟩ := own_at HRW2.out I (by omega) (by omega)
          have hm1 := HM2.out _ (rd_mem (l := c2) (i := J) (by omega) (by omega))
          have hm2 := HM2.out _ (rd_mem (l := c2) (i := I) (by omega) (by omega))
          rw [hja] at q1 f1
          rw [hjb] at q2 f2
          have cF : ∀ d os, CallsIn Fence.wide 0 Tryz.prog 37 #[recv, .int .i64 (rd c2 J), .int .i64 (rd c2 I)] (grow (redrawn wr d) os) fun e w'' => e = .returned (.int .i64 (F (rd c2 J) (rd c2 I))) ∧ ∃ p : Regrown, w'' = grow (redrawn wr p.d) p.os := fun d os => CallsIn.regrown_of (callsIn_wide.2 (HO.out _ (HB2.out.trans ((below_regrown wr d os).mono (by have := HB2.out.size; omega))) _ _ hm1 hm2))
          clear hm1 hm2
          have k1 := cell_regrown q1
          have k2 := cell_regrown q2
          have hu1 : rd c2 ((a + k : Nat) + 1) = rd c2 J := by rw [show (((a + k : Nat) : Int) + 1) = J by omega]
          have hu2 : rd c2 (a + k : Nat) = rd c2 I := by rw [show ((a + k : Nat) : Int) = I by omega]
          generalize rd c2 J = u1 at k1 q1 cF hu1
          generalize rd c2 I = u2 at k2 q2 cF hu2
          have HU1 := Aside0.mk hu1
          have HU2 := Aside0.mk hu2
          have HJJ := Aside0.mk hJ
          have HII := Aside0.mk hI
          clear hu1 hu2 hJ hI
          gi_wp2
          refine region_quiet_below (by kernel_rfl) (by kernel_rfl) (by kernel_rfl) ?_
          repeat (refine wpQuietIn_step (fun _ _ _ _ => trivial) (fun K hK => ?_); go_simp; first | (refine hK _ ?_; clear hK K) | (apply Exists.intro; refine ⟨fun _ => ?_, hK _ ?_⟩; (exact ⟨rfl, cF _ _⟩); clear hK K))
          refine wpQuietIn_nil ?_
          intro _ hw'
          obtain ⟨⟨dq, osq⟩, hw''⟩ := hw'
          subst hw''
          have hbr := below_regrown wr dq osq
          have hws := HB2.out.size
          generalize grow (redrawn wr dq) osq = W2 at hbr ⊢
          have c1 := (hbr.cell (World.block_lt_of_cell? _ _ q1)).trans q1
          have c2' := (hbr.cell (World.block_lt_of_cell? _ _ q2)).trans q2
          have g1 := (hbr.frozen (World.block_lt_of_cell? _ _ q1)).trans f1
          have g2 := (hbr.frozen (World.block_lt_of_cell? _ _ q2)).trans f2
          have HRW3 := Aside0.mk (pw_own_below HRW2.out hbr)
          have HB3 := Aside0.mk (HB2.out.trans (hbr.mono (show base ≤ wr.heap.size by omega)))
          clear k1 k2 cF q1 q2 f1 f2 hbr
          by_cases hF : F u1 u2 < 0
          · gi_wp2
            gi_region
            gi_wp2
            have s1 := (own_store HRW3.out ((a + k + 1 : Nat) : Int) u2).1
            rw [Int.toNat_natCast] at s1
            have s2 := (own_store s1 ((a + k : Nat) : Int) u1).1
            rw [Int.toNat_natCast] at s2
            have hsw : swapL c2 (a + k) = (c2.set (a + k + 1) u2).set (a + k) u1 := by unfold swapL; rw [HU1.out, HU2.out]
            have hR4 : Row g cap base (swapL c2 (a + k)) ((W2.setCell ⟨g, a + k + 1, none⟩ (.int .i64 u2)).setCell ⟨g, a + k, none⟩ (.int .i64 u1)) := by
              unfold Row
              rw [swapL_length, hsw]
              exact s2
            have hins : insJ F a k (swapL c2 (a + k)) = insJ F a (e + 1) cur := by
              rw [← HT.out]
              show _ = if F (rd c2 ((a + k : Nat) + 1)) (rd c2 (a + k : Nat)) < 0 then _ else _
              rw [HU1.out, HU2.out, if_pos hF]
            have hI2 : I = (a : Int) + (k : Int) := by have := HII.out; have := HJJ.out; omega
            refine ⟨⟨k, swapL c2 (a + k), by omega, by rw [← hI2], by rw [swapL_length]; exact hd1, by rw [swapL_length]; exact hd2, ⟨hins⟩, ⟨fun x hx => HM2.out x (swapL_mem hkx x hx)⟩, ⟨hR4⟩, ⟨below_drew ((HB3.out.setCell (p := ⟨g, a + k + 1, none⟩) hbg _).setCell (p := ⟨g, a + k, none⟩) hbg _)⟩⟩, by simp [intOf]; omega⟩
          · gi_wp2
            refine ⟨⟨e + 1, c2, by omega, by go_num, hd1, hd2, ⟨?_⟩, HM2, HRW3, HB3⟩, by simp [intOf]; omega⟩
            show c2 = insJ F a (e + 1) (insTo F a e xs)
            rw [← HC.out, ← HT.out]
            show _ = if F (rd c2 ((a + k : Nat) + 1)) (rd c2 (a + k : Nat)) < 0 then _ else _
            rw [HU1.out, HU2.out, if_neg hF]
    · have hed : e = d := by omega
      subst hed
      clear he
      gi_wp2
      go_end0
      exact ⟨⟨_, rfl⟩, by rw [← HC.out]; exact HRW.out, HB.out⟩
open Go.Sort (grow swp)
def RowN (g cap base N : Nat) (d : Array Int) (w : World) : Prop := d.size = N ∧ w.ownsRow base 3 1 (.slice (some ⟨g, 0, none⟩) N cap) N (nums .i64 d.toList)
def InR (n : Nat) (d : Array Int) : Prop := ∀ i, i < d.size → 0 ≤ d[i]! ∧ d[i]! < (n : Int)
def ltF (F : Int → Int → Int) (x y : Int) : Bool := decide (F x y < 0)
theorem size_swp' (d : Array Int) (i j : Nat) : (swp d i j).size = d.size := by simp [swp]
theorem rowN_at {g cap base N : Nat} {d : Array Int} {w : World} (h : RowN g cap base N d w) (i : Int) (h0 : 0 ≤ i) (h1 : i < (N : Int)) :
    w.cell? ⟨g, i.toNat, none⟩ = some (.int .i64 d[i.toNat]!) ∧ w.frozen? ⟨g, i.toNat, none⟩ = false := by
  have := own_at h.2 i h0 h1
  have e : rd d.toList i = d[i.toNat]! := by
    unfold rd
    simp [List.getD_eq_getElem?_getD, Array.getElem!_eq_getD, Array.getD_eq_getD_getElem?]
  rwa [e] at this
theorem rowN_swap {g cap base N : Nat} {d : Array Int} {w : World} (h : RowN g cap base N d w) (i j : Nat) :
    RowN g cap base N (swp d i j) ((w.setCell ⟨g, i, none⟩ (.int .i64 d[j]!)).setCell ⟨g, j, none⟩ (.int .i64 d[i]!)) := by
  refine ⟨(size_swp' d i j).trans h.1, ?_⟩
  have s1 := (own_store h.2 (i : Int) d[j]!).1
  rw [Int.toNat_natCast] at s1
  have s2 := (own_store s1 (j : Int) d[i]!).1
  rw [Int.toNat_natCast] at s2
  simpa [swp] using s2
theorem rowN_below {g cap base N : Nat} {d : Array Int} {w W : World} (h : RowN g cap base N d w) (hb : Below w.heap.size w W) : RowN g cap base N d W := ⟨h.1, pw_own_below h.2 hb⟩
theorem rowN_base {g cap base N : Nat} {d : Array Int} {w : World} (h : RowN g cap base N d w) : base ≤ g := own_base h.2 g rfl
theorem rowN_lt {g cap base N : Nat} {d : Array Int} {w : World} (h : RowN g cap base N d w) : g < w.heap.size := own_lt h.2 g rfl
theorem rowN_second {g cap base N : Nat} {d : Array Int} {w : World} (h : RowN g cap base N d w) (i j : Int) (hj0 : 0 ≤ j) (hj : j < (N : Int)) (v : Value) : ∃ u, (w.setCell ⟨g, i.toNat, none⟩ v).cell? ⟨g, j.toNat, none⟩ = some u := by
  by_cases e : i.toNat = j.toNat
  · rw [e]; exact ⟨v, World.cell?_setCell_same _ _ _ (rowN_at h j hj0 hj).1⟩
  · exact ⟨_, (World.cell?_setCell_other _ _ _ _ (by intro e'; simp only [Addr.mk.injEq] at e'; omega)).trans (rowN_at h j hj0 hj).1⟩
theorem get_swp (d : Array Int) (i j k : Nat) (hi : i < d.size) (hj : j < d.size) (hk : k < d.size) : (swp d i j)[k]! = if k = j then d[i]! else if k = i then d[j]! else d[k]! := by
  unfold swp
  simp only [Array.getElem!_eq_getD, Array.getD_eq_getD_getElem?, Array.getElem?_setIfInBounds, Array.size_setIfInBounds]
  by_cases h1 : k = j
  · subst h1; simp [hk]
  · by_cases h2 : k = i
    · subst h2; simp [h1, Ne.symm h1, hk]
    · simp [h1, h2, Ne.symm h1, Ne.symm h2]
theorem inR_swp {n : Nat} {d : Array Int} (h : InR n d) (i j : Nat) (hi : i < d.size) (hj : j < d.size) : InR n (swp d i j) := by
  intro k hk
  rw [size_swp'] at hk
  rw [get_swp d i j k hi hj hk]
  split
  · exact h i hi
  · split
    · exact h j hj
    · exact h k hk
theorem inR_at {n N : Nat} {d : Array Int} (h : InR n d) (hs : d.size = N) (i : Int) (h0 : 0 ≤ i) (h1 : i < (N : Int)) : 0 ≤ d[i.toNat]! ∧ d[i.toNat]! < (n : Int) := h _ (by omega)
theorem cmpAt {ord : Nat} {recv : Value} {n base : Nat} {F : Int → Int → Int} {w wr : World} {x y : Int} (hO : OrdB ord recv n F base w) (hB : Below base w wr) (hbs : base ≤ w.heap.size) (hx : 0 ≤ x ∧ x < (n : Int)) (hy : 0 ≤ y ∧ y < (n : Int)) :
    ∀ d os, CallsIn Fence.wide 0 Tryz.prog ord #[recv, .int .i64 x, .int .i64 y] (grow (redrawn wr d) os) fun e w'' => e = .returned (.int .i64 (F x y)) ∧ ∃ p : Regrown, w'' = grow (redrawn wr p.d) p.os :=
  fun d os => CallsIn.regrown_of (callsIn_wide.2 (hO _ (hB.trans ((below_regrown wr d os).mono (Nat.le_trans hbs hB.size))) _ _ hx hy))
theorem wrap_i64' {x : Int} (h0 : -4611686018427387904 ≤ x) (h1 : x ≤ 4611686018427387904) : IntKind.i64.wrap x = x := IntWalk.i64_in x (by omega)
open Go.Sort (scanUp scanDown) in
theorem scanUp_yes (p : Int → Bool) (d : Array Int) (j i : Int) (hi : 0 ≤ i) (hc : (decide (i ≤ j) && p d[i.toNat]!) = true) : scanUp p d j.toNat i.toNat = scanUp p d j.toNat (i + 1).toNat := by
  rw [Bool.and_eq_true, decide_eq_true_eq] at hc
  rw [scanUp, if_pos (by simp [hc.2]; omega), show (i + 1).toNat = i.toNat + 1 by omega]
open Go.Sort (scanUp scanDown) in
theorem scanUp_no (p : Int → Bool) (d : Array Int) (j i : Int) (hi : 0 ≤ i) (hj : 0 ≤ j) (hc : (decide (i ≤ j) && p d[i.toNat]!) = false) : scanUp p d j.toNat i.toNat = i.toNat := by
  rw [scanUp, if_neg]
  intro h
  rw [Bool.and_eq_true, decide_eq_true_eq] at h
  rw [h.2, Bool.and_true, decide_eq_false_iff_not] at hc
  omega
open Go.Sort (scanUp scanDown) in
theorem scanDown_yes (p : Int → Bool) (d : Array Int) (i j : Int) (hi : 1 ≤ i) (hc : (decide (i ≤ j) && p d[j.toNat]!) = true) : scanDown p d i.toNat j.toNat = scanDown p d i.toNat (j - 1).toNat := by
  rw [Bool.and_eq_true, decide_eq_true_eq] at hc
  obtain ⟨k, hk⟩ : ∃ k, j.toNat = k + 1 := ⟨j.toNat - 1, by omega⟩
  rw [show (j - 1).toNat = k by omega]
  rw [hk] at hc ⊢
  rw [scanDown, if_pos (by simp [hc.2]; omega)]
open Go.Sort (scanUp scanDown) in
theorem scanDown_no (p : Int → Bool) (d : Array Int) (i j : Int) (hi : 0 ≤ i) (hc : (decide (i ≤ j) && p d[j.toNat]!) = false) : scanDown p d i.toNat j.toNat = j.toNat := by
  cases hk : j.toNat with
  | zero => rfl
  | succ k =>
    rw [hk] at hc
    rw [scanDown, if_neg]
    intro h
    rw [Bool.and_eq_true, decide_eq_true_eq] at h
    rw [h.2, Bool.and_true, decide_eq_false_iff_not] at hc
    omega
end Go.Proofs.YthbkomkgciemiaaGreat.PKF
