/- Texts of this claim, merged: part 6. -/
import Derived.Test.YthbkomkgciemiaaCW4
import Derived.Test.YthbkomkgciemiaaCW5
import Derived.Lib.QuietBelowIn
import Derived.Sort.QuietIn
import Derived.Deep.Matrix
import Derived.Deep.SlicePairs
import Derived.OpenShut
import Derived.Test.YthbkomkgciemiaaCW3
/- A range over a function whose body may write the blocks of a set D (below the iterator's own). -/
namespace Go.Proofs.Ythbkomkgciemiaa.RF
open Go Go.RowKit
variable {P : Program}
/-- B is A, but for blocks from h on, and those of D. -/
structure Bx (D : Nat → Prop) (h : Nat) (A B : World) : Prop where
  os : B.os = A.os
  tape : B.tape = A.tape
  output : B.output = A.output
  size : A.heap.size ≤ B.heap.size
  block : ∀ k, k < h → ¬ D k → B.heap[k]? = A.heap[k]?
variable {D : Nat → Prop}
theorem Bx.of {h : Nat} {A B : World} (x : Below h A B) : Bx D h A B := ⟨x.os, x.tape, x.output, x.size, fun k hk _ => x.block k hk⟩
theorem Bx.below {h : Nat} {A B : World} (x : Bx D h A B) (hD : ∀ k, k < h → ¬ D k) : Below h A B := ⟨x.os, x.tape, x.output, x.size, fun k hk => x.block k hk (hD k hk)⟩
theorem Bx.refl (h : Nat) (A : World) : Bx D h A A := ⟨rfl, rfl, rfl, Nat.le_refl _, fun _ _ _ => rfl⟩
theorem Bx.trans {h : Nat} {A B C : World} (x : Bx D h A B) (y : Bx D h B C) : Bx D h A C :=
  ⟨y.os.trans x.os, y.tape.trans x.tape, y.output.trans x.output, Nat.le_trans x.size y.size, fun k hk hd => (y.block k hk hd).trans (x.block k hk hd)⟩
theorem Bx.mono {h h' : Nat} {A B : World} (x : Bx D h A B) (hh : h' ≤ h) : Bx D h' A B := ⟨x.os, x.tape, x.output, x.size, fun k hk hd => x.block k (Nat.lt_of_lt_of_le hk hh) hd⟩
theorem Bx.set {h : Nat} {A B : World} (x : Bx D h A B) {p : Addr} (hp : h ≤ p.block ∨ D p.block) (v : Value) : Bx D h A (B.setCell p v) :=
  ⟨x.os, x.tape, x.output, by simpa using x.size, fun k hk hd => (Below.heap_setCell _ _ _ _ (fun e => hp.elim (fun hp => by omega) (fun hp => hd (by rw [e]; exact hp)))).trans (x.block k hk hd)⟩
/-- The iterator gives xs. -/
def SeqD {α : Type} (D : Nat → Prop) (P : Program) (g : Nat) (lb : Array Value) (h n : Nat) (encs : α → Array Value) (xs : List α) (w : World) : Prop :=
  ∀ (l : Nat) (J Jx : List α → World → Prop) (W : World), Bx D n w W → Firm h n J → Firm h n Jx →
    (∀ pre x rest A, xs = pre ++ x :: rest → J pre A → YieldAt Fence.wide 0 P l (encs x) A fun e A' =>
       Bx D n A A' ∧ ((e = .returned (.bool true) ∧ J (pre ++ [x]) A') ∨ (e = .returned (.bool false) ∧ Jx (pre ++ [x]) A'))) →
    J [] W →
    CallsIn Fence.wide 0 P g (#[.func (.yield l) #[] #[]] ++ lb) W fun e W' => (∃ v, e = .returned v) ∧ Bx D h W W' ∧ (J xs W' ∨ ∃ pre, pre <+: xs ∧ Jx pre W')

/-- How the body of a round may be left. -/
def postD {β : Type} (D : Nat → Prop) (n r : Nat) (I : β → World → Prop) (Ix : Code → β → World → Prop) (s : β) (A : World) : Exit → Act → World → Prop
  | .normal, _, B => (Bx D n A B ∧ B.heap[r]? = A.heap[r]? ∧ B.heap[r + 1]? = A.heap[r + 1]?) ∧ I s B
  | .ret, _, B => (Bx D n A B ∧ B.heap[r]? = A.heap[r]? ∧ B.heap[r + 1]? = A.heap[r + 1]?) ∧ Ix .ret s B
  | .exit id, _, B => (Bx D n A B ∧ B.heap[r]? = A.heap[r]? ∧ B.heap[r + 1]? = A.heap[r + 1]?) ∧ Ix (.exit id) s B
  | .goto t, _, B => (Bx D n A B ∧ B.heap[r]? = A.heap[r]? ∧ B.heap[r + 1]? = A.heap[r + 1]?) ∧ Ix (.goto t) s B
  | _, _, _ => False

theorem wp_rangeD {α : Type} {g : Operand} {ps : Array Tmp} {assign body : Code} {Q : Exit → Act → World → Prop} {a : Act} {w : World}
    {gf : Nat} {lb : Array Value} (hg : a.eval g = .func (.func gf) #[] lb) (eg : ∀ args w, (callFunc gf args).run P w = .ok (.enter gf args) w)
    {h n : Nat} {encs : α → Array Value} {xs : List α} {w0 : World} (hseq : SeqD D P gf lb h n encs xs w0) (hb0 : Bx D n w0 w) (hn : n ≤ w.heap.size) (hh : h ≤ n)
    (hps : ∀ x, (encs x).size = ps.size)
    (I : List α → World → Prop) (Ix : Code → List α → World → Prop) (hI : FirmR h n w.heap.size I) (hIx : ∀ c, FirmR h n w.heap.size (Ix c)) (h0 : I [] w)
    (Ax : α → Act → World → Prop) (hAx : ∀ x a', FirmR h n w.heap.size (fun (_ : Unit) W => Ax x a' W))
    (hassign : ∀ (l : Nat) (pre : List α) (x : α) (rest : List α) (A : World) (K : Act → World → Prop), xs = pre ++ x :: rest → I pre A → w.heap.size + 2 ≤ A.heap.size → Bx D h w A →
      (∀ a' A', Below A.heap.size A A' → Ax x a' A' → K a' A') →
      assign.wpIn (Fence.wide.inRound l) 0 P (Exit.then K (fun _ _ _ => False)) { tmps := (ps.zip (encs x)).foldl (fun t (p, v) => t.setIfInBounds p v) a.tmps, defers := [] } A)
    (hbody : ∀ (l : Nat) (pre : List α) (x : α) (rest : List α) (a' : Act) (A : World), xs = pre ++ x :: rest → I pre A → Ax x a' A → w.heap.size + 2 ≤ A.heap.size → Bx D h w A →
      body.wpIn (Fence.wide.inRound l) 0 P (postD D n w.heap.size I Ix (pre ++ [x]) A) a' A)
    (hdone : ∀ (W : World), I xs W → Bx D h w W → W.heap[w.heap.size]? = some (.deferred (some [])) → Q .normal { a with defers := { target := .collected w.heap.size, args := #[] } :: a.defers } W)
    (hstop : ∀ (c : Code) (pre : List α) (W : World), pre <+: xs → Ix c pre W → Bx D h w W → W.heap[w.heap.size]? = some (.deferred (some [])) →
      c.wpIn Fence.wide 0 P Q { a with defers := { target := .collected w.heap.size, args := #[] } :: a.defers } W) :
    (Code.rangeFunc g ps assign body).wpIn Fence.wide 0 P Q a w := by
  have hIP : ∀ {s : List α} {A : World} (l : Nat) (o : Obj), (l = w.heap.size ∨ l = w.heap.size + 1) → I s A → I s (A.putObj l o) := fun l o hl hs =>
    hI _ _ _ hs ⟨putObj_below _ _ (by omega), fun k _ _ h1 h2 => World.putObj_heap_other (by omega)⟩
  have hIxP : ∀ {c : Code} {s : List α} {A : World} (l : Nat) (o : Obj), (l = w.heap.size ∨ l = w.heap.size + 1) → Ix c s A → Ix c s (A.putObj l o) := fun l o hl hs =>
    hIx _ _ _ _ hs ⟨putObj_below _ _ (by omega), fun k _ _ h1 h2 => World.putObj_heap_other (by omega)⟩
  have hAxP : ∀ {x : α} {a' : Act} {A : World} (l : Nat) (o : Obj), (l = w.heap.size ∨ l = w.heap.size + 1) → Ax x a' A → Ax x a' (A.putObj l o) := fun l o hl hs =>
    hAx _ _ () _ _ hs ⟨putObj_below _ _ (by omega), fun k _ _ h1 h2 => World.putObj_heap_other (by omega)⟩
  refine wpIn_rangeFunc ?_
  intro fn hfn
  rw [show Fence.wide.round = none from rfl]
  obtain ⟨rec, hrec⟩ : ∃ rec : LoopState → Option Code → Loop, rec = fun st pe => { state := st, pending := pe, fn, tmps := a.tmps, params := ps, assign, body, defers := w.heap.size } := ⟨_, rfl⟩
  obtain ⟨W1, hW1⟩ : ∃ W1, (w.alloc (.deferred (some []))).alloc (.loop (rec .ready none)) = W1 := ⟨_, rfl⟩
  have hL1 : W1.heap[w.heap.size + 1]? = some (.loop (rec .ready none)) := by
    rw [← hW1]; have := World.alloc_heap_new (w.alloc (.deferred (some []))) (.loop (rec .ready none)); rwa [World.size_alloc] at this
  have hK1 : W1.heap[w.heap.size]? = some (.deferred (some [])) := by
    rw [← hW1]; exact (Below.heap_alloc _ _ _ (by simp)).trans (World.alloc_heap_new w _)
  have hwW : Below w.heap.size w W1 := by rw [← hW1]; exact ((Below.refl _ w).alloc (Nat.le_refl _) _).alloc (by simp) _
  have hI1 : I [] W1 := hI _ _ _ h0 ⟨hwW.mono (by omega), fun k _ hk _ _ => hwW.block k hk⟩
  refine ⟨w.heap.size + 1, [{ target := .collected w.heap.size, args := #[] }], W1, { target := .fn (.func gf) lb, args := #[.func (.yield (w.heap.size + 1)) #[] #[]] }, W1, gf,
    #[.func (.yield (w.heap.size + 1)) #[] #[]] ++ lb, W1, ?_, ?_, ?_, ?_, fun hd => by simp [Fence.wide] at hd, ?_⟩
  · rw [← hW1, hrec]; exact run_enterLoop_outer _ _ _ _ _
  · simp only [resolve, hg]
    simp [go_sem]
  · intro f' hf'; trivial
  · simp [invoke, go_sem, eg]
  · refine (hseq (w.heap.size + 1)
      (fun pre W => I pre W ∧ W.heap[w.heap.size + 1]? = some (.loop (rec .ready none)) ∧ W.heap[w.heap.size]? = some (.deferred (some [])) ∧ Bx D h w W)
      (fun pre W => ∃ c, Ix c pre W ∧ W.heap[w.heap.size + 1]? = some (.loop (rec .done (some c))) ∧ W.heap[w.heap.size]? = some (.deferred (some [])) ∧ Bx D h w W)
      W1 (hb0.trans (Bx.of (hwW.mono hn))) ?_ ?_ ?_ ⟨hI1, hL1, hK1, Bx.of (hwW.mono (by omega))⟩).mono ?_
    · rintro s A B ⟨h1, h2, h3, h4⟩ ⟨hb, hm⟩
      exact ⟨hI _ _ _ h1 ⟨hb, fun k hk hl _ _ => hm k hk hl⟩, (hm _ (by omega) (Array.getElem?_eq_some_iff.1 h2).1).trans h2, (hm _ (by omega) (Array.getElem?_eq_some_iff.1 h3).1).trans h3, h4.trans (Bx.of hb)⟩
    · rintro s A B ⟨c, h1, h2, h3, h4⟩ ⟨hb, hm⟩
      exact ⟨c, hIx _ _ _ _ h1 ⟨hb, fun k hk hl _ _ => hm k hk hl⟩, (hm _ (by omega) (Array.getElem?_eq_some_iff.1 h2).1).trans h2, (hm _ (by omega) (Array.getElem?_eq_some_iff.1 h3).1).trans h3, h4.trans (Bx.of hb)⟩
    · rintro pre x rest A hxs ⟨hi, hl, hk, hb⟩
      have hlt : w.heap.size + 1 < A.heap.size := (Array.getElem?_eq_some_iff.1 hl).1
      have hy := run_yield (P := P) (args := encs x) hl (by rw [hrec]; exact hps x)
      rw [hrec] at hy
      refine ⟨fn, _, assign, body, hy, roundIn_of_wpIn hfn (hassign _ pre x rest A _ hxs hi (by omega) hb ?_)⟩
      clear hy
      intro a' A' hba hax
      have hlA : A'.heap[w.heap.size + 1]? = some (.loop (rec .ready none)) := (hba.block _ hlt).trans hl
      have hkA : A'.heap[w.heap.size]? = some (.deferred (some [])) := (hba.block _ (by omega)).trans hk
      have hiA : I pre A' := hI _ _ _ hi ⟨hba.mono (by omega), fun k _ hk _ _ => hba.block k hk⟩
      have hltA : w.heap.size + 1 < A'.heap.size := (Array.getElem?_eq_some_iff.1 hlA).1
      refine ⟨_, run_beginRound hlA (by rw [hrec]), ?_⟩
      have hl2 : (A'.putObj (w.heap.size + 1) (.loop { rec .ready none with state := .busy })).heap[w.heap.size + 1]? = some (.loop { rec .ready none with state := .busy }) := World.putObj_heap_same hltA
      have hk2 : (A'.putObj (w.heap.size + 1) (.loop { rec .ready none with state := .busy })).heap[w.heap.size]? = some (.deferred (some [])) := (World.putObj_heap_other (by omega)).trans hkA
      have hbA : Below n A (A'.putObj (w.heap.size + 1) (.loop { rec .ready none with state := .busy })) := (hba.mono (by omega)).trans (putObj_below _ _ (by omega))
      refine wpIn_mono (hbody _ pre x rest a' _ hxs (hIP _ _ (.inr rfl) hiA) (hAxP _ _ (.inr rfl) hax) (by simp; omega) (hb.trans (Bx.of (hbA.mono hh)))) ?_
      have fin : ∀ (jump : Option Code) (W3 : World), (Bx D n (A'.putObj (w.heap.size + 1) (.loop { rec .ready none with state := .busy })) W3 ∧ W3.heap[w.heap.size]? = (A'.putObj (w.heap.size + 1) (.loop { rec .ready none with state := .busy })).heap[w.heap.size]? ∧ W3.heap[w.heap.size + 1]? = (A'.putObj (w.heap.size + 1) (.loop { rec .ready none with state := .busy })).heap[w.heap.size + 1]?) →
          (Instr.endRound (w.heap.size + 1) jump).run P W3 = .ok (.bool jump.isNone) (W3.putObj (w.heap.size + 1) (.loop (rec (if jump.isNone then .ready else .done) jump))) ∧
          Bx D n A (W3.putObj (w.heap.size + 1) (.loop (rec (if jump.isNone then .ready else .done) jump))) ∧
          (W3.putObj (w.heap.size + 1) (.loop (rec (if jump.isNone then .ready else .done) jump))).heap[w.heap.size + 1]? = some (.loop (rec (if jump.isNone then .ready else .done) jump)) ∧
          (W3.putObj (w.heap.size + 1) (.loop (rec (if jump.isNone then .ready else .done) jump))).heap[w.heap.size]? = some (.deferred (some [])) := fun jump W3 hk3 => by
        obtain ⟨hb3, hr3, hl3'⟩ := hk3
        have hl3 := hl3'.trans hl2
        have := run_endRound (P := P) jump hl3
        rw [hrec] at this ⊢
        exact ⟨this, ((Bx.of hbA).trans hb3).trans (Bx.of (putObj_below _ _ (by omega))), World.putObj_heap_same (Array.getElem?_eq_some_iff.1 hl3).1, (World.putObj_heap_other (by omega)).trans (hr3.trans hk2)⟩
      rintro e a3 W3 hp
      cases e with
      | normal =>
        obtain ⟨hk3, hi3⟩ := hp
        obtain ⟨hr, hb4, hl4, hk4⟩ := fin none W3 hk3
        exact ⟨_, _, hr, hb4, .inl ⟨rfl, hIP _ _ (.inr rfl) hi3, hl4, hk4, hb.trans (hb4.mono hh)⟩⟩
      | ret =>
        obtain ⟨hk3, hi3⟩ := hp
        obtain ⟨hr, hb4, hl4, hk4⟩ := fin (some .ret) W3 hk3
        exact ⟨_, _, hr, hb4, .inr ⟨rfl, .ret, hIxP _ _ (.inr rfl) hi3, hl4, hk4, hb.trans (hb4.mono hh)⟩⟩
      | exit id =>
        obtain ⟨hk3, hi3⟩ := hp
        obtain ⟨hr, hb4, hl4, hk4⟩ := fin (some (.exit id)) W3 hk3
        exact ⟨_, _, hr, hb4, .inr ⟨rfl, .exit id, hIxP _ _ (.inr rfl) hi3, hl4, hk4, hb.trans (hb4.mono hh)⟩⟩
      | goto t =>
        obtain ⟨hk3, hi3⟩ := hp
        obtain ⟨hr, hb4, hl4, hk4⟩ := fin (some (.goto t)) W3 hk3
        exact ⟨_, _, hr, hb4, .inr ⟨rfl, .goto t, hIxP _ _ (.inr rfl) hi3, hl4, hk4, hb.trans (hb4.mono hh)⟩⟩
      | panic ch => exact hp.elim
      | outgrown => exact hp.elim
    · rintro e W2 ⟨⟨v, rfl⟩, hbW, (⟨hi, hl, hk, hb⟩ | ⟨pre, hpre, c, hi, hl, hk, hb⟩)⟩
      · exact ⟨none, _, by have := run_endLoop (P := P) hl (by rw [hrec]; simp); rw [hrec] at this; exact this, hdone _ (hIP _ _ (.inr rfl) hi) (hb.trans (Bx.of (putObj_below _ _ (by omega)))) ((World.putObj_heap_other (by omega)).trans hk)⟩
      · exact ⟨some c, _, by have := run_endLoop (P := P) hl (by rw [hrec]; simp); rw [hrec] at this; exact this, hstop c pre _ hpre (hIxP _ _ (.inr rfl) hi) (hb.trans (Bx.of (putObj_below _ _ (by omega)))) ((World.putObj_heap_other (by omega)).trans hk)⟩
end Go.Proofs.Ythbkomkgciemiaa.RF
/- The iterator of a walk. -/
namespace Go.Proofs.Ythbkomkgciemiaa.PKM
open Go.Proofs.Ythbkomkgciemiaa.RF
open Go.RowKit Go.Proofs.YthbkomkgciemiaaW.PrintWords Go.Proofs.YthbkomkgciemiaaW.PrintLast Go.Proofs.YthbkomkgciemiaaW.PrintMore
attribute [local go_sem] max2_int min2_int max_two min_two max_three min_three max_four min_four
set_option linter.unusedVariables false
set_option linter.unusedSimpArgs false
open Go.RowKit
open Go.Sort (grow)
attribute [local go_sem] Oper.semAt_some
def nextV (ks : List Int) (g : List Hd) (a : Int) : Int := minF (orderF ks) (rd_T39 g a).f1
def cntL (ks : List Int) (a : Int) : Nat := (ks.filter fun x => decide (x < rd ks a)).length
theorem cntL_lt (ks : List Int) (a b : Int) (h0 : 0 ≤ b) (h1 : b < ks.length) (h : rd ks b < rd ks a) : cntL ks b < cntL ks a := by
  have hm : rd ks b ∈ ks := rd_mem h0 h1
  unfold cntL
  have hs : (ks.filter fun x => decide (x < rd ks b)) = (ks.filter fun x => decide (x < rd ks a)).filter fun x => decide (x < rd ks b) := by
    rw [List.filter_filter]
    congr 1
    funext x
    simp only [← Bool.decide_and]
    congr 1
    apply propext
    omega
  rw [hs]
  refine List.length_filter_lt_length_iff_exists.2 ⟨rd ks b, ?_, by simp⟩
  simp [hm, h]
def walkV (ks : List Int) (g : List Hd) (a : Int) : List Int :=
  a :: (if _h : rd ks (nextV ks g a) < rd ks a ∧ 0 ≤ nextV ks g a ∧ nextV ks g a < ks.length then walkV ks g (nextV ks g a) else [])
  termination_by cntL ks a
  decreasing_by exact cntL_lt ks a _ _h.2.1 _h.2.2 _h.1
def GoodG (n : Nat) (g : List Hd) : Prop := g.length = n ∧ ∀ h ∈ g, 1 ≤ h.f1.length ∧ h.f1.length ≤ n ∧ ∀ s ∈ h.f1, 0 ≤ s ∧ s < (n : Int)
theorem rd_T_mem {g : List Hd} {i : Int} (h0 : 0 ≤ i) (h1 : i < g.length) : rd_T39 g i ∈ g := by
  unfold rd_T39
  have : i.toNat < g.length := by omega
  simp [this]
theorem nextV_in {n : Nat} {ks : List Int} {g : List Hd} (hg : GoodG n g) (hk : ks.length = n) (a : Int) (h0 : 0 ≤ a) (h1 : a < n) : 0 ≤ nextV ks g a ∧ nextV ks g a < n := by
  have hm := rd_T_mem h0 (show a < g.length by rw [hg.1]; exact h1)
  obtain ⟨h2, _, h3⟩ := hg.2 _ hm
  exact h3 _ (minF_mem _ _ h2)
def curOf (B : Nat) (w : World) : Int := match w.cell? ⟨B, 0, none⟩ with
  | some (.int _ a) => a
  | _ => 0
theorem curOf_blk {B : Nat} {w : World} {a : Int} {t : TypeId} (h : w.heap[B]? = some (.cells #[.int .i64 a] t (0, 0))) : curOf B w = a := by
  unfold curOf
  rw [cell_of_blk h]
theorem walkV_go {ks : List Int} {g : List Hd} {a : Int} (h : rd ks (nextV ks g a) < rd ks a) (h1 : 0 ≤ nextV ks g a ∧ nextV ks g a < ks.length) : walkV ks g a = a :: walkV ks g (nextV ks g a) := by
  rw [walkV, dif_pos ⟨h, h1⟩]
theorem walkV_end {ks : List Int} {g : List Hd} {a : Int} (h : rd ks a ≤ rd ks (nextV ks g a)) : walkV ks g a = [a] := by
  rw [walkV, dif_neg (by omega)]
theorem walkV_cons (ks : List Int) (g : List Hd) (a : Int) : ∃ r, walkV ks g a = a :: r := ⟨_, by rw [walkV]⟩
set_option maxHeartbeats 1000000 in
set_option maxRecDepth 100000 in
theorem walk_seqD (D : Nat → Prop) (m : Int) (A1 : Option Addr) (n1 c1 : Nat) (A2 : Option Addr) (c2 : Nat) (g : List Hd) (A4 : Option Addr) (c4 : Nat) (ks : List Int) (from_ : Int) (B B1 : Nat) (w : World)
    (hB : w.heap[B]? = some (.cells #[.int .i64 m, .slice A1 n1 c1, .slice A2 g.length c2, .slice A4 ks.length c4] 56 (0, 0))) (hB1 : w.heap[B1]? = some (.cells #[.int .i64 from_] 3 (0, 0))) (hlt : B < B1) (hsz : w.heap.size = B1 + 1) (hDB : ¬ D B) (hDB1 : ¬ D B1)
    (hg : ∀ W, Bx D B1 w W → Kd.C k39 W A2 g.length g) (hk : ∀ W, Bx D B1 w W → Kd.C (Kd.int .i64) W A4 ks.length ks) (hv : GoodG ks.length g) (h0 : 0 ≤ from_) (h1 : from_ < ks.length) :
    SeqD D Try.prog 46 #[.pointer (some ⟨B1, 0, none⟩), .pointer (some ⟨B, 0, none⟩)] B1 (B1 + 1) encI (walkV ks g from_) w := by
  intro l J Jx W hW hJ hJx hY h00
  have hu := Try.underlying56
  have hu2 := Try.underlying39
  have hu3 := Try.underlying25
  have HB1 := Aside0.mk ((hW.block B1 (by omega) hDB1).trans hB1)
  have HB := Aside0.mk hB
  have HG := Aside0.mk hg
  have HK := Aside0.mk hk
  have HV := Aside0.mk hv
  have HW := Aside0.mk (hW.mono (show B1 ≤ B1 + 1 by omega))
  have HJ := Aside0.mk hJ
  have HJx := Aside0.mk hJx
  have HY := Aside0.mk hY
  have hWs : B1 + 1 ≤ W.heap.size := by have := hW.size; omega
  clear hB hB1 hg hk hv hW hJ hJx hY
  refine callsIn_of_wp Try.func46 rfl trivial ?_ rfl
  simp only [Try.ntmps46, List.size_toArray, List.length_cons, List.length_nil, Nat.reduceAdd, Nat.reduceSub, Array.replicate_succ, Array.replicate_zero, List.push_toArray, List.append_toArray, List.nil_append, List.cons_append]
  gi_wp2
  gi_loopw [4] (fun _ wr => ∃ (pre : List Int) (a : Int), 0 ≤ a ∧ a < ks.length ∧ Aside0 (pre ++ walkV ks g a = walkV ks g from_) ∧ Aside0 (wr.heap[B1]? = some (.cells #[.int .i64 a] 3 (0, 0))) ∧ Aside0 (J pre wr) ∧ Aside0 (Bx D B1 W wr)) (fun _ wr => cntL ks (curOf B1 wr))
  case atStart => exact ⟨[], from_, h0, h1, ⟨rfl⟩, HB1, ⟨h00⟩, ⟨Bx.refl _ _⟩⟩
  case round =>
    obtain ⟨pre, a, ha0, ha1, HE, HF, HJa, HBw⟩ := hrel
    clear h00
    obtain ⟨rst, hrst⟩ := walkV_cons ks g a
    obtain ⟨fn, tmps, assign, body, hy, hR⟩ := HY.out pre a rst wr (by rw [← HE.out, hrst]) HJa.out
    simp only [encI] at hy
    have HR := Aside0.mk hR
    have hc := cell_of_blk HF.out
    have hsr : B1 + 1 ≤ wr.heap.size := by have := HBw.out.size; omega
    clear hR hrst
    gi_wp2
    refine ⟨rfl, HR.out.mono ?_⟩
    rintro e W' ⟨hbB, ⟨rfl, hJ'⟩ | ⟨rfl, hJx'⟩⟩
    · have HJ2 := Aside0.mk hJ'
      have HB2 := Aside0.mk (HBw.out.trans (hbB.mono (by omega)))
      have HF2 := Aside0.mk ((hbB.block B1 (by omega) hDB1).trans HF.out)
      have hs2 : B1 + 1 ≤ W'.heap.size := by have := hbB.size; omega
      clear hJ' hbB hy hc HR
      have HBS := Aside0.mk (((HW.out.trans HB2.out).block B hlt hDB).trans HB.out)
      obtain ⟨ad, A1', c1', hA, q0, q1, hl1, hC1⟩ := at_T39 (HG.out _ (HW.out.trans HB2.out)) a ha0 (by rw [HV.out.1]; exact ha1)
      subst hA
      have hcf := cell_of_blk HF2.out
      have hk0 : W'.cell? ⟨B, 0, none⟩ = some (.int .i64 m) := by simp [World.cell?, HBS.out]
      have hk1 : W'.cell? ⟨B, 1, none⟩ = some (.slice A1 n1 c1) := by simp [World.cell?, HBS.out]
      have hk2 : W'.cell? ⟨B, 2, none⟩ = some (.slice (some ad) g.length c2) := by simp [World.cell?, HBS.out]
      have hk3 : W'.cell? ⟨B, 3, none⟩ = some (.slice A4 ks.length c4) := by simp [World.cell?, HBS.out]
      obtain ⟨hs1, _, hin⟩ := HV.out.2 _ (rd_T_mem ha0 (by rw [HV.out.1]; exact ha1))
      have hks := HK.out _ (HW.out.trans HB2.out)
      have hM := minC (searchV m A1 n1 c1 (some ad) g.length c2 A4 ks.length c4) ks.length (orderF ks) A1' c1' (rd_T39 g a).f1
      have cM : ∀ d os, CallsIn Fence.wide 0 Try.prog 47 #[.slice A1' (rd_T39 g a).f1.length c1', .func (.func 32) #[searchV m A1 n1 c1 (some ad) g.length c2 A4 ks.length c4] #[]] (grow (redrawn W' d) os) fun e w'' => e = .returned (.int .i64 (nextV ks g a)) ∧ ∃ p : Regrown, w'' = grow (redrawn W' p.d) p.os := fun d os => CallsIn.regrown_of (callsIn_wide.2 (hM _ (fun W2 hW2 x y hx hy => orderC m A1 n1 c1 (some ad) g.length c2 A4 c4 ks x y W2 (Kd.C_below hks ((below_regrown W' d os).trans (hW2.mono (below_regrown W' d os).size))) hx hy) (Kd.C_below hC1 (below_regrown W' d os)) hs1 hin))
      have k0 := cell_regrown hk0
      have k1 := cell_regrown hk1
      have k2 := cell_regrown hk2
      have k3 := cell_regrown hk3
      have k4 := cell_regrown hcf
      have k6 := cell_regrown q1
      have hgl : a < (g.length : Int) := by rw [HV.out.1]; exact ha1
      obtain ⟨hx0, hx1⟩ := nextV_in HV.out rfl a ha0 ha1
      have HKS := Aside0.mk hks
      clear hks hC1 hM q0 hin
      unfold searchV at cM
      gi_wp2
      refine wpIn_region_quiet_below rfl (by kernel_rfl) (by kernel_rfl) ?_
      repeat (refine wpQuietIn_step (fun _ _ _ _ => trivial) (fun K hK => ?_); go_simp; first | (refine hK _ ?_; clear hK K) | (apply Exists.intro; refine ⟨fun _ => ?_, hK _ ?_⟩; (exact ⟨rfl, cM _ _⟩); clear hK K))
      refine wpQuietIn_nil ?_
      intro _ hw'
      obtain ⟨⟨dq, osq⟩, hw''⟩ := hw'
      subst hw''
      have hb3 := below_regrown W' dq osq
      generalize grow (redrawn W' dq) osq = W2 at hb3 ⊢
      clear k0 k1 k2 k3 k4 k6 cM hk0 hk1 hk2 hk3 q1
      have hs3 : B1 + 1 ≤ W2.heap.size := by have := hb3.size; omega
      have HBS2 := Aside0.mk (blk_below HBS.out hb3)
      have HF3 := Aside0.mk (blk_below HF2.out hb3)
      have HB3 := Aside0.mk (HB2.out.trans (Bx.of (hb3.mono (by omega))))
      have HJ3 := Aside0.mk (HJ.out _ _ _ HJ2.out (Stir.of_below hb3 (by omega)))
      have hk3 : W2.cell? ⟨B, 3, none⟩ = some (.slice A4 ks.length c4) := by simp [World.cell?, HBS2.out]
      have hcf2 := cell_of_blk HF3.out
      have hff2 := frozen_of_blk HF3.out
      obtain ⟨ak, hAk, hka⟩ := Kd.at_int (Kd.C_below HKS.out hb3) a ha0 ha1
      subst hAk
      obtain ⟨ak', hAk', hkb⟩ := Kd.at_int (Kd.C_below HKS.out hb3) (nextV ks g a) hx0 hx1
      cases hAk'
      clear hb3
      by_cases hle : rd ks a ≤ rd ks (nextV ks g a)
      · have HE2 := Aside0.mk (show pre ++ [a] = walkV ks g from_ by rw [← HE.out, walkV_end hle])
        generalize nextV ks g a = nx at hle hkb hx0 hx1 ⊢
        gi_wp2
        gi_quiet (fail)
        gi_wp2
        refine bodyPost_ret (results_none rfl _ _ _) rfl ?_
        have hdn : Below W2.heap.size W2 (W2.drewN nq) := pw_below_drewN (Below.refl _ _) nq
        refine ⟨⟨_, rfl⟩, HB3.out.trans (Bx.of (hdn.mono (by omega))), .inl ?_⟩
        rw [← HE2.out]
        exact HJ.out _ _ _ HJ3.out (Stir.of_below hdn (by omega))
      · have HE2 := Aside0.mk (show (pre ++ [a]) ++ walkV ks g (nextV ks g a) = walkV ks g from_ by rw [← HE.out, walkV_go (by omega) ⟨hx0, hx1⟩]; simp)
        have hlt2 : rd ks (nextV ks g a) < rd ks a := by omega
        have HM := Aside0.mk (cntL_lt ks a _ hx0 hx1 hlt2)
        generalize nextV ks g a = nx at hlt2 hle hkb hx0 hx1 HE2 HM ⊢
        gi_wp2
        gi_quiet (fail)
        gi_wp2
        have hdn : Below W2.heap.size W2 (W2.drewN nq) := pw_below_drewN (Below.refl _ _) nq
        have hF4 := blk_put (blk_below HF3.out hdn) 0 (.int .i64 nx) rfl
        have hJ4 := HJ.out _ _ _ (HJ.out _ _ _ HJ3.out (Stir.of_below hdn (by omega))) (Stir.set (p := ⟨B1, 0, none⟩) (by simp) (by simp) (.int .i64 nx))
        have hB4 := (HB3.out.trans (Bx.of (hdn.mono (show B1 ≤ W2.heap.size by omega)))).set (p := ⟨B1, 0, none⟩) (.inl (by simp)) (.int .i64 nx)
        refine ⟨⟨pre ++ [a], nx, hx0, hx1, HE2, ⟨hF4⟩, ⟨hJ4⟩, ⟨hB4⟩⟩, ?_⟩
        rw [curOf_blk HF.out, curOf_blk (a := nx) hF4]
        exact HM.out
    · have HB3 := Aside0.mk (HBw.out.trans (hbB.mono (by omega)))
      have HJ3 := Aside0.mk hJx'
      clear hbB hJx' hy hc HR
      gi_wp2
      go_end0
      refine ⟨⟨_, rfl⟩, HB3.out, .inr ⟨_, ?_, HJ3.out⟩⟩
      rw [← HE.out]
      obtain ⟨r, hr⟩ := walkV_cons ks g a
      rw [hr]
      exact ⟨r, by simp⟩
theorem walk_seq (m : Int) (A1 : Option Addr) (n1 c1 : Nat) (A2 : Option Addr) (c2 : Nat) (g : List Hd) (A4 : Option Addr) (c4 : Nat) (ks : List Int) (from_ : Int) (B B1 : Nat) (w : World)
    (hB : w.heap[B]? = some (.cells #[.int .i64 m, .slice A1 n1 c1, .slice A2 g.length c2, .slice A4 ks.length c4] 56 (0, 0))) (hB1 : w.heap[B1]? = some (.cells #[.int .i64 from_] 3 (0, 0))) (hlt : B < B1) (hsz : w.heap.size = B1 + 1)
    (hg : ∀ W, Below B1 w W → Kd.C k39 W A2 g.length g) (hk : ∀ W, Below B1 w W → Kd.C (Kd.int .i64) W A4 ks.length ks) (hv : GoodG ks.length g) (h0 : 0 ≤ from_) (h1 : from_ < ks.length) :
    SeqC Try.prog 46 #[.pointer (some ⟨B1, 0, none⟩), .pointer (some ⟨B, 0, none⟩)] B1 (B1 + 1) encI (walkV ks g from_) w := by
  have h := walk_seqD (fun _ => False) m A1 n1 c1 A2 c2 g A4 c4 ks from_ B B1 w hB hB1 hlt hsz id id (fun W hW => hg W (hW.below fun _ _ => id)) (fun W hW => hk W (hW.below fun _ _ => id)) hv h0 h1
  intro l J Jx W hW hJ hJx hY h00
  refine (h l J Jx W (Bx.of hW) hJ hJx (fun pre x rest A e hA => ?_) h00).mono fun e W' ⟨h1, h2, h3⟩ => ⟨h1, h2.below fun _ _ => id, h3⟩
  obtain ⟨fn, tmps, assign, body, hy, hR⟩ := hY pre x rest A e hA
  exact ⟨fn, tmps, assign, body, hy, hR.mono fun e W ⟨h1, h2⟩ => ⟨Bx.of h1, h2⟩⟩
set_option maxHeartbeats 400000 in
set_option maxRecDepth 100000 in
theorem walkC (recv : Value) (from_ : Int) (w : World) (cs : Array Value) (hr : recv = .agg cs) (hsz : cs.size = 4) :
    Calls Try.prog 27 #[recv, .int .i64 from_] w fun e w' => e = .returned (.func (.func 46) #[] #[.pointer (some ⟨w.heap.size + 1, 0, none⟩), .pointer (some ⟨w.heap.size, 0, none⟩)]) ∧ w' = (w.alloc (.cells cs 56)).alloc (.cells #[.int .i64 from_] 3) := by
  subst hr
  have hu := Try.underlying56
  obtain ⟨a, b, c, d, rfl⟩ : ∃ a b c d, cs = #[a, b, c, d] := by
    obtain ⟨l⟩ := cs
    match l, hsz with
    | [a, b, c, d], _ => exact ⟨a, b, c, d, rfl⟩
  go_enter Try.func27, Try.ntmps27
  go_wp2
  go_ret
  exact ⟨rfl, rfl⟩
end Go.Proofs.Ythbkomkgciemiaa.PKM
/- Walk, Covers. -/
namespace Go.Proofs.Ythbkomkgciemiaa.PKM
open Go.Proofs.Ythbkomkgciemiaa.RF
open Go.RowKit Go.Proofs.YthbkomkgciemiaaW.PrintWords Go.Proofs.YthbkomkgciemiaaW.PrintLast Go.Proofs.YthbkomkgciemiaaW.PrintMore
attribute [local go_sem] max2_int min2_int max_two min_two max_three min_three max_four min_four
set_option linter.unusedVariables false
set_option linter.unusedSimpArgs false
open Go.RowKit
open Go.Sort (grow)
structure BegOk (m : Int) (l : List (List Int)) (g : List Hd) (v : List Int) (from_ : Int) : Prop where
  right : rightF m l = true
  valid : ValidAt l.length g true
  good : GoodG l.length g
  one : 1 ≤ l.length
  few : l.length ≤ 4096
  alike : alikeF (rdL l 0) v = true
  h0 : 0 ≤ from_
  h1 : from_ < l.length
theorem walkV_le (ks : List Int) (g : List Hd) : ∀ (n : Nat) (a : Int), cntL ks a ≤ n → (walkV ks g a).length ≤ n + 1
  | 0, a, h => by
    rw [walkV]
    split
    · rename_i hh; have := cntL_lt ks a _ hh.2.1 hh.2.2 hh.1; omega
    · simp
  | n + 1, a, h => by
    rw [walkV]
    split
    · rename_i hh
      have := cntL_lt ks a _ hh.2.1 hh.2.2 hh.1
      have := walkV_le ks g n (nextV ks g a) (by omega)
      simp; omega
    · simp
theorem walkV_len (ks : List Int) (g : List Hd) (a : Int) : (walkV ks g a).length ≤ ks.length + 1 :=
  walkV_le ks g ks.length a (List.length_filter_le _ _)
set_option maxHeartbeats 1000000 in
set_option maxRecDepth 100000 in
theorem walkOkC (m : Int) (A1 : Option Addr) (c1 : Nat) (l : List (List Int)) (A2 : Option Addr) (c2 : Nat) (g : List Hd) (A3 : Option Addr) (c3 : Nat) (v : List Int) (from_ : Int) (w : World) (hr1 : Kd.C (Kd.slice 3 (Kd.int .i64)) w A1 l.length l) (hc1 : l.length ≤ c1) (hr2 : Kd.C k39 w A2 g.length g) (hc2 : g.length ≤ c2) (hr3 : Kd.C (Kd.int .i64) w A3 v.length v) (hc3 : v.length ≤ c3) (hok : BegOk m l g v from_) :
    Calls Try.prog 11 #[.int .i64 m, .slice A1 l.length c1, .agg #[.slice A2 g.length c2], .slice A3 v.length c3, .int .i64 from_] w fun e w' => ∃ v0 : Value, e = .returned (.tuple #[v0, .int .i64 0]) ∧ Kd.R (Kd.int .i64) 3 w' w.heap.size (fun _ => True) v0 (walkV (keysV m l v) g from_) ∧ Below w.heap.size w w' := by
  have hu := Try.underlying56
  have hu3 := Try.underlying25
  have HBg := Aside0.mk (fun W (hW : Below w.heap.size w W) => beginYes m A1 c1 l A2 c2 g A3 c3 v from_ W (Kd.C_below hr1 hW) hc1 (Kd.C_below hr2 hW) hc2 (Kd.C_below hr3 hW) hc3 hok.right hok.valid hok.one hok.alike hok.h0 hok.h1)
  have HG := Aside0.mk hr2
  have HK := Aside0.mk hok
  have hkl := keysV_length m l v
  clear hr1 hr2 hr3
  generalize hks : keysV m l v = ks at HBg hkl ⊢
  have hok2 : GoodG ks.length g := by rw [hkl]; exact hok.good
  have h0 := hok.h0
  have h1 : from_ < ks.length := by rw [hkl]; exact hok.h1
  have hfew : ks.length ≤ 4096 := by rw [hkl]; exact hok.few
  have HV := Aside0.mk hok2
  clear hks hok hok2 hkl HK
  go_enter Try.func11, Try.ntmps11
  go_wp2_with fail
  refine (HBg.out _ (below_alloc (Below.refl _ w) _)).mono ?_
  rintro e w1 ⟨A4, c4, rfl, hR, hb⟩
  have hsz := hb.size
  simp only [World.size_alloc] at hsz hR
  have HR := Aside0.mk (Kd.R_reads' hR).2.2
  have HB := Aside0.mk (below_step (below_alloc (Below.refl _ w) _) hb)
  clear hb hR HBg
  unfold searchV
  go_wp2_with fail
  refine (walkC _ from_ _ _ rfl rfl).mono ?_
  rintro e w2 ⟨rfl, hw2⟩
  simp only [World.size_alloc] at hw2 ⊢
  have hsz2 : w2.heap.size = (w1.heap.size + 1 + 1) + 1 := by rw [hw2]; simp
  have hb2 : Below w1.heap.size w1 w2 := by rw [hw2]; exact below_alloc (below_alloc (below_alloc (Below.refl _ w1) _) _) _
  have hq0 : w2.heap[w1.heap.size + 1]? = some (.cells #[.int .i64 m, .slice A1 l.length c1, .slice A2 g.length c2, .slice A4 ks.length c4] 56 (0, 0)) := by
    rw [hw2]
    have := blk_alloc (blk_new (w1.alloc (.cells #[.int .i64 m, .slice A1 l.length c1, .slice A2 g.length c2, .slice A4 ks.length c4] 56)) (.cells #[.int .i64 m, .slice A1 l.length c1, .slice A2 g.length c2, .slice A4 ks.length c4] 56)) (.cells #[.int .i64 from_] 3)
    simpa using this
  have hq1 : w2.heap[w1.heap.size + 1 + 1]? = some (.cells #[.int .i64 from_] 3 (0, 0)) := by
    rw [hw2]
    have := blk_new ((w1.alloc (.cells #[.int .i64 m, .slice A1 l.length c1, .slice A2 g.length c2, .slice A4 ks.length c4] 56)).alloc (.cells #[.int .i64 m, .slice A1 l.length c1, .slice A2 g.length c2, .slice A4 ks.length c4] 56)) (.cells #[.int .i64 from_] 3)
    simpa using this
  have hseq := walk_seq m A1 l.length c1 A2 c2 g A4 c4 ks from_ (w1.heap.size + 1) (w1.heap.size + 1 + 1) w2 hq0 hq1 (by omega) hsz2
    (fun W hW => Kd.C_below HG.out (HB.out.trans ((hb2.trans (hW.mono (by omega))).mono (by omega))))
    (fun W hW => Kd.C_below HR.out (hb2.trans (hW.mono (by omega)))) HV.out h0 h1
  rw [← hsz2] at hseq
  have hlen := walkV_len ks g from_
  have HS := Aside0.mk (collectC _ _ (enters_of Try.func46 (by kernel_rfl) rfl) _ _ _ _ hseq (Below.refl _ _) (by omega) (by omega))
  have HB2 := Aside0.mk (HB.out.trans (hb2.mono (by omega)))
  clear hseq hq0 hq1 hw2 hb2
  go_wp2_with fail
  refine HS.out.mono ?_
  rintro e w3 ⟨v0, rfl, ho, hb3⟩
  have HR3 := Aside0.mk (Kd.R_lower (Kd.R_of_own (enc := Value.int .i64) (h1 := fun _ => rfl) ho (ok := fun _ => True) (fun _ _ => trivial)) (show w.heap.size ≤ w2.heap.size by omega))
  have HB3 := Aside0.mk (HB2.out.trans (hb3.mono (by omega)))
  clear ho hb3 HS
  go_wp2
  go_ret2
  exact ⟨_, rfl, HR3.out, HB3.out⟩
set_option maxHeartbeats 400000 in
set_option maxRecDepth 100000 in
theorem coversC (m k t radius r : Int) (w : World) (h : metric_High.f m k t = some r) :
    Calls Try.prog 24 #[.int .i64 m, .int .i64 k, .int .i64 t, .int .i64 radius] w fun e w' => e = .returned (.bool (decide (r ≤ radius))) ∧ Below w.heap.size w w' := by
  have HC := Aside0.mk (metric_High.calls m k t r w h)
  clear h
  go_enter Try.func24, Try.ntmps24
  go_wp2_with fail
  refine HC.out.mono ?_
  rintro e w1 ⟨rfl, hb⟩
  have HB := Aside0.mk hb
  clear hb
  go_wp2
  go_ret
  exact ⟨ret_bool (by simp), HB.out⟩
end Go.Proofs.Ythbkomkgciemiaa.PKM
/- The program's Valid of graphs in plain terms. -/
namespace Go.Proofs.Ythbkomkgciemiaa.PKM
open Go.Proofs.Ythbkomkgciemiaa.RF
open Go.RowKit Go.Proofs.YthbkomkgciemiaaW.PrintWords Go.Proofs.YthbkomkgciemiaaW.PrintLast Go.Proofs.YthbkomkgciemiaaW.PrintMore
attribute [local go_sem] max2_int min2_int max_two min_two max_three min_three max_four min_four
set_option linter.unusedVariables false
set_option linter.unusedSimpArgs false
theorem up_le {α : Type} {f : Nat → Option α} (h : ∀ k, LeO (f k) (f (k + 1))) {k k' : Nat} {r : α} (hk : f k = some r) (hle : k ≤ k') : f k' = some r := by
  induction hle with
  | refl => exact hk
  | step _ ih => exact h _ _ ih
theorem index_ex (xs : List Int) (x : Int) (hx : xs.length ≤ 4611686018427387904) (d : Nat) : ∀ i : Nat, i + d = xs.length → ∃ k r, slices_Index_int_int.l0 k xs x (xs.length : Int) i = some r ∧ (0 ≤ r ↔ ∃ q : Nat, i ≤ q ∧ q < xs.length ∧ rd xs q = x) := by
  induction d with
  | zero =>
    intro i hi
    refine ⟨1, -1, ?_, ?_⟩
    · unfold slices_Index_int_int.l0; rw [if_neg (by omega)]
    · constructor
      · intro h; omega
      · rintro ⟨q, h1, h2, _⟩; omega
  | succ d ih =>
    intro i hi
    by_cases he : x = rd xs i
    · refine ⟨1, i, ?_, ?_⟩
      · unfold slices_Index_int_int.l0
        rw [if_pos (by omega), if_pos (by omega), if_pos (by omega), if_pos he]
      · constructor
        · intro _; exact ⟨i, Nat.le_refl _, by omega, he.symm⟩
        · intro _; omega
    · obtain ⟨k, r, h1, h2⟩ := ih (i + 1) (by omega)
      refine ⟨k + 1, r, ?_, ?_⟩
      · unfold slices_Index_int_int.l0
        rw [if_pos (by omega), if_pos (by omega), if_pos (by omega), if_neg he, w64 (by omega)]
        exact h1
      · rw [h2]
        constructor
        · rintro ⟨q, h3, h4, h5⟩; exact ⟨q, by omega, h4, h5⟩
        · rintro ⟨q, h3, h4, h5⟩
          refine ⟨q, ?_, h4, h5⟩
          rcases Nat.lt_or_ge i q with h | h
          · omega
          · have : q = i := by omega
            subst this; exact absurd h5.symm he
theorem mem_iff_rd {xs : List Int} {x : Int} : x ∈ xs ↔ ∃ q : Nat, q < xs.length ∧ rd xs q = x := by
  constructor
  · intro h
    obtain ⟨q, hq, rfl⟩ := List.mem_iff_getElem.1 h
    exact ⟨q, hq, by simp [rd, hq]⟩
  · rintro ⟨q, hq, rfl⟩
    exact rd_mem (by omega) (by omega)
theorem contains_ex (xs : List Int) (x : Int) (hx : xs.length ≤ 4611686018427387904) : ∃ k r, slices_Contains_int_int.f k xs x = some r ∧ (r = true ↔ x ∈ xs) := by
  obtain ⟨k, r, h1, h2⟩ := index_ex xs x hx xs.length 0 (by omega)
  refine ⟨k, decide (r ≥ 0), ?_, ?_⟩
  · have h1' : slices_Index_int_int.f k xs x = some r := h1
    unfold slices_Contains_int_int.f; rw [h1']; rfl
  · rw [mem_iff_rd, decide_eq_true_iff]
    refine h2.trans ⟨?_, ?_⟩
    · rintro ⟨q, _, h3, h4⟩; exact ⟨q, h3, h4⟩
    · rintro ⟨q, h3, h4⟩; exact ⟨q, Nat.zero_le _, h3, h4⟩
/-- A slot, behind the one ahead of it. -/
def okAt (n : Int) (xs : List Int) (q : Nat) : Prop := 0 ≤ rd xs q ∧ rd xs q < n ∧ (0 < q → rd xs ((q : Int) - 1) < rd xs q)
def hoodOk (n : Int) (j : Nat) (h : Hd) : Prop := 0 ≤ h.f0 ∧ h.f0 ≤ 134217728 ∧ (j : Int) ∈ h.f1 ∧ ∀ q : Nat, q < h.f1.length → okAt n h.f1 q
/-- What a valid graph is. -/
def ValidG (n : Int) (g : List Hd) : Prop := 1 ≤ n ∧ n ≤ 4096 ∧ (g.length : Int) = n ∧ ∀ j : Nat, j < g.length → hoodOk n j (rd_T39 g j)
def shortG (g : List Hd) : Prop := ∀ h ∈ g, h.f1.length ≤ 4611686018427387904
theorem l1_ex (n : Int) (g : List Hd) (i : Nat) (radius : Int) (xs : List Int) (hx : xs.length ≤ 4611686018427387904) (hi : (i : Int) < 4611686018427387904) (b : Bool) (k0 : Nat) (h0 : graph_Valid.l0 k0 n g (g.length : Int) ((i : Int) + 1) = some b) (d : Nat) : ∀ p : Nat, p + d = xs.length →
    ∃ k r, graph_Valid.l1 k n g (g.length : Int) i xs (xs.length : Int) p radius xs = some r ∧ (r = true ↔ (∀ q : Nat, p ≤ q → q < xs.length → okAt n xs q) ∧ b = true) := by
  induction d with
  | zero =>
    intro p hp
    refine ⟨k0 + 1, b, ?_, ?_⟩
    · unfold graph_Valid.l1
      rw [if_neg (by omega), w64 (by omega)]
      exact h0
    · constructor
      · intro h; exact ⟨fun q h1 h2 => by omega, h⟩
      · exact fun h => h.2
  | succ d ih =>
    intro p hp
    by_cases c1 : rd xs p < 0
    · refine ⟨1, false, ?_, ?_⟩
      · unfold graph_Valid.l1; rw [if_pos (by omega), if_pos (by omega), if_pos (by omega), if_pos c1]
      · constructor
        · intro h; cases h
        · rintro ⟨h, _⟩; have := (h p (Nat.le_refl _) (by omega)).1; omega
    · by_cases c2 : rd xs p ≥ n
      · refine ⟨1, false, ?_, ?_⟩
        · unfold graph_Valid.l1; rw [if_pos (by omega), if_pos (by omega), if_pos (by omega), if_neg c1, if_pos c2]
        · constructor
          · intro h; cases h
          · rintro ⟨h, _⟩; have := (h p (Nat.le_refl _) (by omega)).2.1; omega
      · obtain ⟨k, r, h1, h2⟩ := ih (p + 1) (by omega)
        by_cases c3 : (p : Int) > 0
        · by_cases c4 : rd xs p ≤ rd xs ((p : Int) - 1)
          · refine ⟨1, false, ?_, ?_⟩
            · unfold graph_Valid.l1
              rw [if_pos (by omega), if_pos (by omega), if_pos (by omega), if_neg c1, if_neg c2, if_pos c3, w64 (i := (p : Int) - 1) (by omega), if_pos (by omega), if_pos (by omega), if_pos c4]
            · constructor
              · intro h; cases h
              · rintro ⟨h, _⟩; have := (h p (Nat.le_refl _) (by omega)).2.2 (by omega); omega
          · refine ⟨k + 1, r, ?_, ?_⟩
            · unfold graph_Valid.l1
              rw [if_pos (by omega), if_pos (by omega), if_pos (by omega), if_neg c1, if_neg c2, if_pos c3, w64 (i := (p : Int) - 1) (by omega), if_pos (by omega), if_pos (by omega), if_neg c4, w64 (by omega)]
              exact h1
            · rw [h2]
              constructor
              · rintro ⟨h, hb⟩
                refine ⟨fun q h3 h4 => ?_, hb⟩
                rcases Nat.lt_or_ge p q with h5 | h5
                · exact h q h5 h4
                · have : q = p := by omega
                  subst this; exact ⟨by omega, by omega, fun _ => by omega⟩
              · rintro ⟨h, hb⟩; exact ⟨fun q h3 h4 => h q (by omega) h4, hb⟩
        · refine ⟨k + 1, r, ?_, ?_⟩
          · unfold graph_Valid.l1
            rw [if_pos (by omega), if_pos (by omega), if_pos (by omega), if_neg c1, if_neg c2, if_neg c3, w64 (by omega)]
            exact h1
          · rw [h2]
            constructor
            · rintro ⟨h, hb⟩
              refine ⟨fun q h3 h4 => ?_, hb⟩
              rcases Nat.lt_or_ge p q with h5 | h5
              · exact h q h5 h4
              · have : q = p := by omega
                subst this; exact ⟨by omega, by omega, fun _ => by omega⟩
            · rintro ⟨h, hb⟩; exact ⟨fun q h3 h4 => h q (by omega) h4, hb⟩
theorem hood_split (n : Int) (i : Nat) (h : Hd) : hoodOk n i h ↔ ¬ h.f0 < 0 ∧ ¬ h.f0 > 134217728 ∧ (i : Int) ∈ h.f1 ∧ (∀ q : Nat, 0 ≤ q → q < h.f1.length → okAt n h.f1 q) := by
  unfold hoodOk
  constructor
  · rintro ⟨h1, h2, h3, h4⟩; exact ⟨by omega, by omega, h3, fun q _ hq => h4 q hq⟩
  · rintro ⟨h1, h2, h3, h4⟩; exact ⟨by omega, by omega, h3, fun q hq => h4 q (Nat.zero_le _) hq⟩
theorem l0_ex (n : Int) (g : List Hd) (hs : shortG g) (hl : g.length ≤ 4096) (d : Nat) : ∀ i : Nat, i + d = g.length →
    ∃ k r, graph_Valid.l0 k n g (g.length : Int) i = some r ∧ (r = true ↔ ∀ j : Nat, i ≤ j → j < g.length → hoodOk n j (rd_T39 g j)) := by
  induction d with
  | zero =>
    intro i hi
    refine ⟨1, true, ?_, ?_⟩
    · unfold graph_Valid.l0; rw [if_neg (by omega)]
    · exact ⟨fun _ j h1 h2 => by omega, fun _ => rfl⟩
  | succ d ih =>
    intro i hi
    obtain ⟨k0, b, h1, h2⟩ := ih (i + 1) (by omega)
    have hlen := hs _ (rd_T_mem (g := g) (i := (i : Int)) (by omega) (by omega))
    obtain ⟨k1, r1, h3, h4⟩ := l1_ex n g i (rd_T39 g i).f0 (rd_T39 g i).f1 hlen (by omega) b k0 h1 (rd_T39 g i).f1.length 0 (by omega)
    obtain ⟨k2, r2, h5, h6⟩ := contains_ex (rd_T39 g i).f1 i hlen
    have hsplit : (∀ j : Nat, i ≤ j → j < g.length → hoodOk n j (rd_T39 g j)) ↔ (hoodOk n i (rd_T39 g i) ∧ b = true) := by
      rw [h2]
      constructor
      · intro h; exact ⟨h i (Nat.le_refl _) (by omega), fun j h7 h8 => h j (by omega) h8⟩
      · rintro ⟨h7, h8⟩ j h9 h10
        rcases Nat.lt_or_ge i j with h11 | h11
        · exact h8 j h11 h10
        · have : j = i := by omega
          subst this; exact h7
    rw [hood_split] at hsplit
    by_cases c1 : (rd_T39 g i).f0 < 0
    · refine ⟨2, false, ?_, ?_⟩
      · unfold graph_Valid.l0
        rw [if_pos (by omega), if_pos (by omega), if_pos (by omega), if_pos c1]; rfl
      · rw [hsplit]; exact ⟨fun h => (by cases h), fun h => absurd c1 h.1.1⟩
    · by_cases c2 : (rd_T39 g i).f0 > 134217728
      · refine ⟨2, false, ?_, ?_⟩
        · unfold graph_Valid.l0
          rw [if_pos (by omega), if_pos (by omega), if_pos (by omega), if_neg c1, if_pos c2]; rfl
        · rw [hsplit]; exact ⟨fun h => (by cases h), fun h => absurd c2 h.1.2.1⟩
      · cases hr2 : r2 with
        | false =>
          refine ⟨k2 + 2, false, ?_, ?_⟩
          · unfold graph_Valid.l0
            rw [if_pos (by omega), if_pos (by omega), if_pos (by omega), if_neg c1, if_neg c2, up_le (slices_Contains_int_int.mono _ _) h5 (show k2 ≤ k2 + 1 by omega), hr2]; rfl
          · rw [hsplit]; exact ⟨fun h => (by cases h), fun h => by have := h6.2 h.1.2.2.1; rw [hr2] at this; cases this⟩
        | true =>
          refine ⟨k1 + k2 + 2, r1, ?_, ?_⟩
          · unfold graph_Valid.l0
            rw [if_pos (by omega), if_pos (by omega), if_pos (by omega), if_neg c1, if_neg c2, up_le (slices_Contains_int_int.mono _ _) h5 (show k2 ≤ k1 + k2 + 1 by omega), hr2]
            show graph_Valid.j2 (k1 + k2 + 1) n g (g.length : Int) i (!true) _ _ = some r1
            unfold graph_Valid.j2
            rw [if_neg (by simp)]
            exact up_le (f := fun k => graph_Valid.l1 k n g (g.length : Int) i (rd_T39 g i).f1 ((rd_T39 g i).f1.length : Int) 0 (rd_T39 g i).f0 (rd_T39 g i).f1) (fun k => (graph_Valid.mono_l k).2.2.2 _ _ _ _ _ _ _ _ _) h3 (by omega)
          · rw [h4, hsplit]
            constructor
            · rintro ⟨h7, h8⟩; exact ⟨⟨c1, c2, h6.1 hr2, h7⟩, h8⟩
            · rintro ⟨⟨_, _, _, h7⟩, h8⟩; exact ⟨h7, h8⟩
theorem valid_ex (n : Int) (g : List Hd) (hs : shortG g) : ∃ k r, graph_Valid.f k n g = some r ∧ (r = true ↔ ValidG n g) := by
  unfold ValidG
  by_cases c1 : n < 1
  · refine ⟨1, false, ?_, ⟨fun h => by (cases h), fun h => by omega⟩⟩
    unfold graph_Valid.f; rw [if_pos c1]; rfl
  · by_cases c2 : n > 4096
    · refine ⟨1, false, ?_, ⟨fun h => by (cases h), fun h => by omega⟩⟩
      unfold graph_Valid.f; rw [if_neg c1, if_pos c2]; rfl
    · by_cases c3 : (g.length : Int) = n
      · obtain ⟨k, r, h1, h2⟩ := l0_ex n g hs (by omega) g.length 0 (by omega)
        refine ⟨k + 1, r, ?_, ?_⟩
        · unfold graph_Valid.f
          rw [if_neg c1, if_neg c2]
          have e : ((g.length : Int) != n) = false := by simp [c3]
          rw [e]
          show (if false = true then some false else graph_Valid.l0 k n g (g.length : Int) 0) = some r
          rw [if_neg (by simp)]
          exact h1
        · rw [h2]
          exact ⟨fun h => ⟨by omega, by omega, c3, fun j hj => h j (Nat.zero_le _) hj⟩, fun h j _ hj => h.2.2.2 j hj⟩
      · refine ⟨1, false, ?_, ⟨fun h => by (cases h), fun h => absurd h.2.2.1 c3⟩⟩
        unfold graph_Valid.f; rw [if_neg c1, if_neg c2]
        have e : ((g.length : Int) != n) = true := by simp [c3]
        rw [e]; rfl
theorem valid_at {n : Int} {g : List Hd} (hs : shortG g) : ValidG n g → ValidAt n g true := by
  intro h
  obtain ⟨k, r, h1, h2⟩ := valid_ex n g hs
  rw [h2.2 h] at h1
  exact ⟨k, h1⟩
/-- Ascending slots below n are at most n. -/
theorem asc_len (n : Int) (xs : List Int) (h : ∀ q : Nat, q < xs.length → okAt n xs q) : (xs.length : Int) ≤ n ∨ xs = [] := by
  have main : ∀ q : Nat, q < xs.length → (q : Int) ≤ rd xs q := by
    intro q
    induction q with
    | zero => intro hq; have := (h 0 hq).1; simpa using this
    | succ q ih =>
      intro hq
      have h1 := ih (by omega)
      have h2 := (h (q + 1) hq).2.2 (by omega)
      have e : ((q + 1 : Nat) : Int) - 1 = q := by omega
      rw [e] at h2
      omega
  cases hx : xs with
  | nil => exact .inr rfl
  | cons a r =>
    left
    have h1 := main (xs.length - 1) (by rw [hx]; simp)
    have h2 := (h (xs.length - 1) (by rw [hx]; simp)).2.1
    rw [← hx]
    have h3 : 1 ≤ xs.length := by rw [hx]; simp
    omega
theorem good_of_valid {n : Nat} {g : List Hd} (h : ValidG n g) : GoodG n g := by
  obtain ⟨h1, h2, h3, h4⟩ := h
  refine ⟨by omega, fun x hx => ?_⟩
  obtain ⟨j, hj, rfl⟩ := List.mem_iff_getElem.1 hx
  have e : rd_T39 g j = g[j] := by unfold rd_T39; simp [hj]
  have h5 := h4 j hj
  rw [e] at h5
  obtain ⟨_, _, h6, h7⟩ := h5
  have h8 : 1 ≤ g[j].f1.length := List.length_pos_of_mem h6
  refine ⟨h8, ?_, fun s hs => ?_⟩
  · rcases asc_len _ _ h7 with h9 | h9
    · omega
    · rw [h9] at h8; simp at h8
  · obtain ⟨q, hq, rfl⟩ := mem_iff_rd.1 hs
    exact ⟨(h7 q hq).1, (h7 q hq).2.1⟩
end Go.Proofs.Ythbkomkgciemiaa.PKM
/- What comes in, opened: a list of lists of numbers; the neighbourhoods of a graph. -/
namespace Go.Proofs.Ythbkomkgciemiaa.PKM
open Go.Proofs.Ythbkomkgciemiaa.RF
open Go.RowKit Go.Proofs.YthbkomkgciemiaaW.PrintWords Go.Proofs.YthbkomkgciemiaaW.PrintLast Go.Proofs.YthbkomkgciemiaaW.PrintMore
attribute [local go_sem] max2_int min2_int max_two min_two max_three min_three max_four min_four
set_option linter.unusedVariables false
set_option linter.unusedSimpArgs false
open Go.ChangeShapes Go.WideShapes Go.RowKit Go.Deep
variable {H : Type} {enc : TypeId × Value → H} {w : World} {held : Bool}
theorem maxLen_le : maxLen ≤ 9223372036854775807 := by decide
theorem open_rows {fuel : Nat} {cs : List Value} {x : DataW H × List MemPlace} (h : DataW.trod enc Try.prog w 0 (fun _ => true) held fuel 22 cs = some x) :
    ∃ (l : List (List Int)) (A : Option Addr) (c : Nat), cs = [.slice A l.length c] ∧ l.length ≤ c ∧ Kd.C (Kd.slice 3 (Kd.int .i64)) w A l.length l := by
  rcases open_int_rows Try.underlying22 Try.underlying26 Try.underlying3 (by kernel_rfl) (by kernel_rfl) h with ⟨h0, _⟩ | ⟨a, len, cap, A, L, C, Z, rfl, hb, hl, hm, _, hr⟩
  · exact ⟨[], none, 0, h0, Nat.le_refl _, Kd.C_nil _ _⟩
  · refine ⟨(List.range len).map fun r => (Z r).take (L r), some a, cap, by simp, by simpa using hl, ⟨by simp, by simp; have := maxLen_le; omega, fun _ => ⟨a, rfl, fun j p hj => ?_⟩⟩⟩
    simp only [List.getElem?_map, Option.map_eq_some_iff] at hj
    obtain ⟨q, hq, rfl⟩ := hj
    rw [List.getElem?_eq_some_iff] at hq
    obtain ⟨hq1, hq2⟩ := hq
    simp at hq1 hq2
    subst hq2
    obtain ⟨h1, h2, h3, h4, _, h6, h7⟩ := hr j (by omega)
    have hzl : ((Z j).take (L j)).length = L j := by simp; omega
    refine ⟨[.slice (A j) ((Z j).take (L j)).length (C j)], rfl, ⟨A j, C j, rfl, by rw [hzl]; exact h2, ?_⟩, fun i u hu => ?_⟩
    · refine Kd.C_of_reads (d := (0 : Int)) ⟨rfl, by rw [hzl]; have := maxLen_le; omega, fun hp => ?_⟩
      rw [hzl] at hp
      cases hA : A j with
      | none => have := h6 hA; omega
      | some a' =>
        refine ⟨a', rfl, fun i hi => ?_⟩
        rw [hzl] at hi
        rw [(h7 a' hA).2 i (by omega)]
        congr 2
        simp [List.getD, List.getElem?_take_of_lt hi]
    · have hi0 : i = 0 := by
        have := (List.getElem?_eq_some_iff.1 hu).1
        simp at this; exact this
      subst hi0
      simp at hu
      subst hu
      show w.cell? (a.add (j * 1 + 0)) = _
      rw [Nat.mul_one, Nat.add_zero, h1]
      congr 2
      first | exact hzl.symm | (simp; omega) | omega
theorem open_hoods {fuel : Nat} {cs : List Value} {x : DataW H × List MemPlace} (h : DataW.trod enc Try.prog w 0 (fun _ => true) held fuel 23 cs = some x) :
    ∃ (g : List Hd) (A : Option Addr) (c : Nat), cs = [.slice A g.length c] ∧ g.length ≤ c ∧ Kd.C k39 w A g.length g := by
  rcases open_slice_pairs Try.underlying23 Try.underlying39 (by kernel_rfl) rfl rfl (by kernel_rfl) (by kernel_rfl) h with ⟨h0, _⟩ | ⟨a, len, cap, m, n, V0, V1, D0, D1, P0, P1, rfl, hb, hl, hm, hmm, _, hr⟩
  · exact ⟨[], none, 0, h0, Nat.le_refl _, Kd.C_nil _ _⟩
  · simp only [if_true] at hmm
    have each : ∀ i, i < len → ∃ y : Hd × Option Addr × Nat, V0 i = .int .i64 y.1.f0 ∧ V1 i = .slice y.2.1 y.1.f1.length y.2.2 ∧ y.1.f1.length ≤ y.2.2 ∧ Kd.C (Kd.int .i64) w y.2.1 y.1.f1.length y.1.f1 := by
      intro i hi
      obtain ⟨_, _, t0, t1⟩ := hr i (by omega)
      obtain ⟨n0, e0, _, _⟩ := DataW.trod_int Try.underlying3 t0
      have e0' : V0 i = .int .i64 n0 := by simpa using e0
      rcases open_ints Try.underlying26 Try.underlying3 (by kernel_rfl) t1 with ⟨hn, _⟩ | ⟨a', l', c', zs, hn, _, hl', hm', hz', _, hcell, _⟩
      · exact ⟨(⟨n0, []⟩, none, 0), e0', by simpa using hn, Nat.le_refl _, Kd.C_nil _ _⟩
      · simp only [if_true] at hz'
        have hzl : (zs.take l').length = l' := by simp; omega
        have hn' : V1 i = .slice (some a') l' c' := by simpa using hn
        refine ⟨(⟨n0, zs.take l'⟩, some a', c'), e0', by rw [hn']; congr 1; exact hzl.symm, by show (zs.take l').length ≤ c'; rw [hzl]; exact hl', ?_⟩
        refine Kd.C_of_reads (d := (0 : Int)) ⟨rfl, by show (zs.take l').length ≤ _; rw [hzl]; have := maxLen_le; omega, fun hp => ⟨a', rfl, fun q hq => ?_⟩⟩
        have hq' : q < l' := by rw [← hzl]; exact hq
        rw [hcell q (by omega)]
        congr 2
        simp [List.getD, List.getElem?_take_of_lt hq']
    have hY : ∃ Y : Nat → Hd × Option Addr × Nat, ∀ i, i < len → V0 i = .int .i64 (Y i).1.f0 ∧ V1 i = .slice (Y i).2.1 (Y i).1.f1.length (Y i).2.2 ∧ (Y i).1.f1.length ≤ (Y i).2.2 ∧ Kd.C (Kd.int .i64) w (Y i).2.1 (Y i).1.f1.length (Y i).1.f1 :=
      ⟨fun i => if hi : i < len then (each i hi).choose else (⟨0, []⟩, none, 0), fun i hi => by simp only [dif_pos hi]; exact (each i hi).choose_spec⟩
    obtain ⟨Y, hY⟩ := hY
    refine ⟨(List.range len).map fun i => (Y i).1, some a, cap, by simp, by simpa using hl, ⟨by simp, by simp; have := maxLen_le; omega, fun _ => ⟨a, rfl, fun j p hj => ?_⟩⟩⟩
    simp only [List.getElem?_map, Option.map_eq_some_iff] at hj
    obtain ⟨q, hq, rfl⟩ := hj
    rw [List.getElem?_eq_some_iff] at hq
    obtain ⟨hq1, hq2⟩ := hq
    simp at hq1 hq2
    subst hq2
    obtain ⟨h1, h2, h3, h4⟩ := hY j hq1
    obtain ⟨c1, c2, _, _⟩ := hr j (by omega)
    refine ⟨[.int .i64 (Y j).1.f0, .slice (Y j).2.1 (Y j).1.f1.length (Y j).2.2], rfl, k39_mk w (Y j).1 h3 h4, fun i u hu => ?_⟩
    match i with
    | 0 =>
      simp at hu; subst hu
      show w.cell? (a.add (j * 2 + 0)) = _
      rw [Nat.add_zero, c1, h1]
    | 1 =>
      simp at hu; subst hu
      show w.cell? (a.add (j * 2 + 1)) = _
      rw [c2, h2]
    | i + 2 => simp at hu
theorem open_list {fuel : Nat} {cs : List Value} {x : DataW H × List MemPlace} (h : DataW.trod enc Try.prog w 0 (fun _ => true) true fuel 26 cs = some x) :
    ∃ (v : List Int) (A : Option Addr) (c : Nat), cs = [.slice A v.length c] ∧ v.length ≤ c ∧ Kd.C (Kd.int .i64) w A v.length v := by
  rcases open_ints Try.underlying26 Try.underlying3 (by kernel_rfl) h with ⟨hn, _⟩ | ⟨a', l', c', zs, hn, _, hl', hm', hz', _, hcell, _⟩
  · exact ⟨[], none, 0, by simpa using hn, Nat.le_refl _, Kd.C_nil _ _⟩
  · simp only [if_true] at hz'
    have hzl : (zs.take l').length = l' := by simp; omega
    refine ⟨zs.take l', some a', c', by rw [hn]; congr 2; exact hzl.symm, by rw [hzl]; exact hl', ?_⟩
    refine Kd.C_of_reads (d := (0 : Int)) ⟨rfl, by rw [hzl]; have := maxLen_le; omega, fun hp => ⟨a', rfl, fun q hq => ?_⟩⟩
    have hq' : q < l' := by rw [← hzl]; exact hq
    rw [hcell q (by omega)]
    congr 2
    simp [List.getD, List.getElem?_take_of_lt hq']
end Go.Proofs.Ythbkomkgciemiaa.PKM
-- by hp.py over the kit's print (stubs proved by hand)
namespace Go.Proofs.Ythbkomkgciemiaa.PKM
open Go.RowKit Go.Proofs.YthbkomkgciemiaaW.PrintWords Go.Proofs.YthbkomkgciemiaaW.PrintLast Go.Proofs.YthbkomkgciemiaaW.PrintMore
attribute [local go_sem] max2_int min2_int max_two min_two max_three min_three max_four min_four   -- for this text's walks alone
set_option linter.unusedVariables false
set_option linter.unusedSimpArgs false

-- STAGE 0 antiquaryref04_Valid
/-! ### antiquaryref04_Valid: function 21 -/
def antiquaryref04_Valid.l0 : Nat → List Int → Int → Option (Bool)
  | 0, _, _ => none
  | k + 1, x0, x3 => if x3 < (x0.length : Int) then (if 0 ≤ x3 then (if (rd x0 x3) < (-1000) then (some false) else (if (rd x0 x3) > 1000 then (some false) else (antiquaryref04_Valid.l0 k x0 (wrap64 (x3 + 1))))) else (none)) else (if (x0.length : Int) ≥ 1 then (some (decide ((x0.length : Int) ≤ 32))) else (some false))
def antiquaryref04_Valid.f (k : Nat) (l0 : List Int) : Option (Bool) := antiquaryref04_Valid.l0 k l0 0
theorem antiquaryref04_Valid.mono_l : ∀ k, (∀ y0 y1, LeO (antiquaryref04_Valid.l0 k y0 y1) (antiquaryref04_Valid.l0 (k + 1) y0 y1))
  | 0 => fun _ _ r h => by simp [antiquaryref04_Valid.l0] at h
  | k + 1 => by
    have ih0 := antiquaryref04_Valid.mono_l k
    · intro y0 y1
      unfold antiquaryref04_Valid.l0
      repeat' first
      | (with_reducible exact ih0 _ _)
      | (with_reducible exact LeO.refl _)
      | (with_reducible exact LeO.none _)
      | (with_reducible refine LeO.ite ?_ ?_)
      | (with_reducible refine LeO.bind ?_ (fun _ => ?_))
      | exact ih0 _ _
      | exact LeO.none _
      | refine LeO.ite ?_ ?_
      | refine LeO.bind ?_ (fun _ => ?_)
theorem antiquaryref04_Valid.mono : ∀ a0 k, LeO (antiquaryref04_Valid.f k a0) (antiquaryref04_Valid.f (k + 1) a0) := by
  intro a0 k
  have ih0 := antiquaryref04_Valid.mono_l k
  unfold antiquaryref04_Valid.f
  repeat' first
      | (with_reducible exact ih0 _ _)
      | (with_reducible exact LeO.refl _)
      | (with_reducible exact LeO.none _)
      | (with_reducible refine LeO.ite ?_ ?_)
      | (with_reducible refine LeO.bind ?_ (fun _ => ?_))
      | exact ih0 _ _
      | exact LeO.none _
      | refine LeO.ite ?_ ?_
      | refine LeO.bind ?_ (fun _ => ?_)
set_option maxHeartbeats 8000000 in
set_option maxRecDepth 100000 in
theorem antiquaryref04_Valid.calls (k : Nat) (A0 : Option Addr) (c0 : Nat) (l0 : List Int) (r : Bool) (w : World) (hr0 : Kd.C (Kd.int .i64) w A0 l0.length l0) (hc0 : l0.length ≤ c0) (h : antiquaryref04_Valid.f k l0 = some r) :
    Calls Try.prog 21 #[.slice A0 l0.length c0] w fun e w' => e = .returned (.bool r) ∧ Drawn0 w w' := by
  have HR0 := Aside0.mk hr0
  have HC0 := Aside0.mk hc0
  clear hr0 hc0
  have H : (antiquaryref04_Valid.l0 k l0 0) = some r := h
  clear h
  have H' := Aside0.mk H
  clear H
  go_enter Try.func21, Try.ntmps21
  go_wp2
  go_loopg [3] k (fun kq v3 w' => ∃ (x3_1 : Int), v3 = .int .i64 x3_1 ∧ Aside0 (antiquaryref04_Valid.l0 kq l0 x3_1 = some r) ∧ Aside0 (kq ≤ k) ∧ Drawn0 w w')
  case atStart => exact ⟨(0), (by first | rfl | (simp; done) | (simp [*]; done)), H', ⟨Nat.le_refl _⟩, by repeat (first | exact Drawn0.refl _ | apply Drawn0.step)⟩
  case round =>
    clear H'
    obtain ⟨x3_1, rfl, HA, HK1, ⟨m1, rfl⟩⟩ := hrel
    cases gk with
    | zero => exact absurd HA.out (by simp [antiquaryref04_Valid.l0])
    | succ k1 =>
      have H := HA.out
      clear HA
      simp only [antiquaryref04_Valid.l0] at H
      by_cases c2 : x3_1 < (l0.length : Int)
      · rw [if_pos c2] at H
        have c2b0 : decide (x3_1 < (l0.length : Int)) = true := decide_eq_true c2
        clear c2
        by_cases c3 : 0 ≤ x3_1
        · rw [if_pos c3] at H
          have c3b0 : decide (0 ≤ x3_1) = true := decide_eq_true c3
          clear c3
          by_cases c4 : (rd l0 x3_1) < (-1000)
          · rw [if_pos c4] at H
            have c4b0 : decide ((rd l0 x3_1) < (-1000)) = true := decide_eq_true c4
            clear c4
            obtain rfl := Option.some.inj H
            have p129 : 0 ≤ (x3_1 : Int) := of_decide_eq_true (by first | (with_reducible assumption) | assumption)
            have q129 : x3_1 < (l0.length : Int) := of_decide_eq_true (by first | (with_reducible assumption) | assumption)
            obtain ⟨ad129, e129, hx129_0⟩ := Kd.at_int HR0.out x3_1 p129 q129
            cases e129
            replace p129 := eq_true p129
            replace q129 := eq_true q129
            go_wp2
            go_ret
            exact ⟨by first | rfl | (simp; done) | (simp [*]; done), by repeat (first | exact Drawn0.refl _ | apply Drawn0.step)⟩
          · rw [if_neg c4] at H
            have c4b0 : decide ((rd l0 x3_1) < (-1000)) = false := decide_eq_false c4
            clear c4
            by_cases c5 : (rd l0 x3_1) > 1000
            · rw [if_pos c5] at H
              have c5b0 : decide (1000 < (rd l0 x3_1)) = true := decide_eq_true c5
              clear c5
              obtain rfl := Option.some.inj H
              have p129 : 0 ≤ (x3_1 : Int) := of_decide_eq_true (by first | (with_reducible assumption) | assumption)
              have q129 : x3_1 < (l0.length : Int) := of_decide_eq_true (by first | (with_reducible assumption) | assumption)
              obtain ⟨ad129, e129, hx129_0⟩ := Kd.at_int HR0.out x3_1 p129 q129
              cases e129
              replace p129 := eq_true p129
              replace q129 := eq_true q129
              have p130 : 0 ≤ (x3_1 : Int) := of_decide_eq_true (by first | (with_reducible assumption) | assumption)
              have q130 : x3_1 < (l0.length : Int) := of_decide_eq_true (by first | (with_reducible assumption) | assumption)
              obtain ⟨ad130, e130, hx130_0⟩ := Kd.at_int HR0.out x3_1 p130 q130
              obtain rfl : ad129 = ad130 := (by injection e130)
              replace p130 := eq_true p130
              replace q130 := eq_true q130
              go_wp2
              go_ret
              exact ⟨by first | rfl | (simp; done) | (simp [*]; done), by repeat (first | exact Drawn0.refl _ | apply Drawn0.step)⟩
            · rw [if_neg c5] at H
              have c5b0 : decide (1000 < (rd l0 x3_1)) = false := decide_eq_false c5
              clear c5
              have H' := Aside0.mk H
              clear H
              have p129 : 0 ≤ (x3_1 : Int) := of_decide_eq_true (by first | (with_reducible assumption) | assumption)
              have q129 : x3_1 < (l0.length : Int) := of_decide_eq_true (by first | (with_reducible assumption) | assumption)
              obtain ⟨ad129, e129, hx129_0⟩ := Kd.at_int HR0.out x3_1 p129 q129
              cases e129
              replace p129 := eq_true p129
              replace q129 := eq_true q129
              have p130 : 0 ≤ (x3_1 : Int) := of_decide_eq_true (by first | (with_reducible assumption) | assumption)
              have q130 : x3_1 < (l0.length : Int) := of_decide_eq_true (by first | (with_reducible assumption) | assumption)
              obtain ⟨ad130, e130, hx130_0⟩ := Kd.at_int HR0.out x3_1 p130 q130
              obtain rfl : ad129 = ad130 := (by injection e130)
              replace p130 := eq_true p130
              replace q130 := eq_true q130
              go_wp2
              go_roundg k1
              case measure => have := HK1.out; omega
              case rel => exact ⟨(wrap64 (x3_1 + 1)), (by first | rfl | (simp; done) | (simp [*]; done)), H', ⟨by have := HK1.out; omega⟩, by repeat (first | exact Drawn0.refl _ | apply Drawn0.step)⟩
        · rw [if_neg c3] at H
          exact absurd H (by simp)
      · rw [if_neg c2] at H
        have c2b0 : decide (x3_1 < (l0.length : Int)) = false := decide_eq_false c2
        clear c2
        by_cases c6 : (l0.length : Int) ≥ 1
        · rw [if_pos c6] at H
          have c6b0 : decide (1 ≤ (l0.length : Int)) = true := decide_eq_true c6
          have c6b1 : decide (1 ≤ l0.length) = true := decide_eq_true (by omega)
          clear c6
          obtain rfl := Option.some.inj H
          go_wp2
          go_ret
          exact ⟨by first | rfl | (simp; done) | (simp [*]; done), by repeat (first | exact Drawn0.refl _ | apply Drawn0.step)⟩
        · rw [if_neg c6] at H
          have c6b0 : decide (1 ≤ (l0.length : Int)) = false := decide_eq_false c6
          have c6b1 : decide (1 ≤ l0.length) = false := decide_eq_false (by omega)
          clear c6
          obtain rfl := Option.some.inj H
          go_wp2
          go_ret
          exact ⟨by first | rfl | (simp; done) | (simp [*]; done), by repeat (first | exact Drawn0.refl _ | apply Drawn0.step)⟩

-- STAGE 0 antiquaryref09_Fit
/-! ### antiquaryref09_Fit: function 16 -/
def antiquaryref09_Fit.l0 : Nat → List (List Int) → Int → Option (Bool)
  | 0, _, _ => none
  | k + 1, x0, x3 => if x3 < (x0.length : Int) then (if 0 ≤ x3 then ((antiquaryref04_Valid.f k (rd_L1 x0 x3)).bind fun t132 => (if t132 = true then (if 0 < (x0.length : Int) then (if ((rd_L1 x0 x3).length : Int) = ((rd_L1 x0 0).length : Int) then (antiquaryref09_Fit.l0 k x0 (wrap64 (x3 + 1))) else (some false)) else (none)) else (some false))) else (none)) else (if (x0.length : Int) ≥ 1 then (some (decide ((x0.length : Int) ≤ 4096))) else (some false))
def antiquaryref09_Fit.f (k : Nat) (l0 : List (List Int)) : Option (Bool) := antiquaryref09_Fit.l0 k l0 0
theorem antiquaryref09_Fit.mono_l : ∀ k, (∀ y0 y1, LeO (antiquaryref09_Fit.l0 k y0 y1) (antiquaryref09_Fit.l0 (k + 1) y0 y1))
  | 0 => fun _ _ r h => by simp [antiquaryref09_Fit.l0] at h
  | k + 1 => by
    have ih0 := antiquaryref09_Fit.mono_l k
    · intro y0 y1
      unfold antiquaryref09_Fit.l0
      repeat' first
      | (with_reducible exact ih0 _ _)
      | (with_reducible exact antiquaryref04_Valid.mono _ _)
      | (with_reducible exact LeO.refl _)
      | (with_reducible exact LeO.none _)
      | (with_reducible refine LeO.ite ?_ ?_)
      | (with_reducible refine LeO.bind ?_ (fun _ => ?_))
      | exact ih0 _ _
      | exact antiquaryref04_Valid.mono _ _
      | exact LeO.none _
      | refine LeO.ite ?_ ?_
      | refine LeO.bind ?_ (fun _ => ?_)
theorem antiquaryref09_Fit.mono : ∀ a0 k, LeO (antiquaryref09_Fit.f k a0) (antiquaryref09_Fit.f (k + 1) a0) := by
  intro a0 k
  have ih0 := antiquaryref09_Fit.mono_l k
  unfold antiquaryref09_Fit.f
  repeat' first
      | (with_reducible exact ih0 _ _)
      | (with_reducible exact antiquaryref04_Valid.mono _ _)
      | (with_reducible exact LeO.refl _)
      | (with_reducible exact LeO.none _)
      | (with_reducible refine LeO.ite ?_ ?_)
      | (with_reducible refine LeO.bind ?_ (fun _ => ?_))
      | exact ih0 _ _
      | exact antiquaryref04_Valid.mono _ _
      | exact LeO.none _
      | refine LeO.ite ?_ ?_
      | refine LeO.bind ?_ (fun _ => ?_)
set_option maxHeartbeats 8000000 in
set_option maxRecDepth 100000 in
theorem antiquaryref09_Fit.calls (k : Nat) (A0 : Option Addr) (c0 : Nat) (l0 : List (List Int)) (r : Bool) (w : World) (hr0 : Kd.C (Kd.slice 3 (Kd.int .i64)) w A0 l0.length l0) (hc0 : l0.length ≤ c0) (h : antiquaryref09_Fit.f k l0 = some r) :
    Calls Try.prog 16 #[.slice A0 l0.length c0] w fun e w' => e = .returned (.bool r) ∧ Drawn0 w w' := by
  have HR0 := Aside0.mk hr0
  have HC0 := Aside0.mk hc0
  clear hr0 hc0
  have H : (antiquaryref09_Fit.l0 k l0 0) = some r := h
  clear h
  have H' := Aside0.mk H
  clear H
  go_enter Try.func16, Try.ntmps16
  go_wp2
  repeat (go_quiet (fail); try go_wp2)
  go_loopg [3] k (fun kq v3 w' => ∃ (x3_1 : Int), v3 = .int .i64 x3_1 ∧ Aside0 (antiquaryref09_Fit.l0 kq l0 x3_1 = some r) ∧ Aside0 (kq ≤ k) ∧ Drawn0 w w')
  case atStart => exact ⟨(0), (by first | rfl | (simp; done) | (simp [*]; done)), H', ⟨Nat.le_refl _⟩, by repeat (first | exact Drawn0.refl _ | apply Drawn0.step)⟩
  case round =>
    clear H'
    try clear c1
    obtain ⟨x3_1, rfl, HA, HK1, ⟨m1, rfl⟩⟩ := hrel
    cases gk with
    | zero => exact absurd HA.out (by simp [antiquaryref09_Fit.l0])
    | succ k1 =>
      have H := HA.out
      clear HA
      simp only [antiquaryref09_Fit.l0] at H
      by_cases c2 : x3_1 < (l0.length : Int)
      · rw [if_pos c2] at H
        have c2b0 : decide (x3_1 < (l0.length : Int)) = true := decide_eq_true c2
        clear c2
        by_cases c3 : 0 ≤ x3_1
        · rw [if_pos c3] at H
          have c3b0 : decide (0 ≤ x3_1) = true := decide_eq_true c3
          clear c3
          replace H := Option.bind_eq_some_iff.mp H
          obtain ⟨t132, A40, H⟩ := H
          replace H : (if t132 = true then (if 0 < (l0.length : Int) then (if ((rd_L1 l0 x3_1).length : Int) = ((rd_L1 l0 0).length : Int) then (antiquaryref09_Fit.l0 k1 l0 (wrap64 (x3_1 + 1))) else (some false)) else (none)) else (some false)) = some r := H
          have A4 := Aside0.mk A40
          clear A40
          by_cases c5 : t132 = true
          · subst c5
            have H1 : (if 0 < (l0.length : Int) then (if ((rd_L1 l0 x3_1).length : Int) = ((rd_L1 l0 0).length : Int) then (antiquaryref09_Fit.l0 k1 l0 (wrap64 (x3_1 + 1))) else (some false)) else (none)) = some r := by rw [if_pos rfl] at H; exact H
            clear H
            have H := H1
            clear H1
            by_cases c6 : 0 < (l0.length : Int)
            · rw [if_pos c6] at H
              have c6b0 : decide (0 < (l0.length : Int)) = true := decide_eq_true c6
              have c6b1 : decide (0 < l0.length) = true := decide_eq_true (by omega)
              clear c6
              by_cases c7 : ((rd_L1 l0 x3_1).length : Int) = ((rd_L1 l0 0).length : Int)
              · rw [if_pos c7] at H
                have c7b0 : (((rd_L1 l0 x3_1).length : Int) == ((rd_L1 l0 0).length : Int)) = true := beq_iff_eq.mpr c7
                have c7b1 : (((rd_L1 l0 x3_1).length : Int) != ((rd_L1 l0 0).length : Int)) = false := bne_eq_false_iff_eq.mpr c7
                have c7b2 : ((rd_L1 l0 x3_1).length == (rd_L1 l0 0).length) = true := by first | simpa using c7 | (simp at c7 ⊢; omega)
                clear c7
                have H' := Aside0.mk H
                clear H
                have p131 : 0 ≤ (x3_1 : Int) := of_decide_eq_true (by first | (with_reducible assumption) | assumption)
                have q131 : x3_1 < (l0.length : Int) := of_decide_eq_true (by first | (with_reducible assumption) | assumption)
                obtain ⟨ad131, A131_0, c131_0, e131, hx131_0, hl131_0, hi131_0⟩ := at_L1 HR0.out x3_1 p131 q131
                cases e131
                have HR131_0 := Aside0.mk hi131_0
                have HC131_0 := Aside0.mk hl131_0
                clear hi131_0 hl131_0
                replace p131 := eq_true p131
                replace q131 := eq_true q131
                go_wp2_with (first | (go_at_call 21; (with_reducible refine (antiquaryref04_Valid.calls k1 _ _ (rd_L1 l0 x3_1) true _ ?side1 ?side2 A4.out).mono ?_); (case side1 => repeat (first | exact HR131_0.out | (with_reducible refine Kd.C_alloc ?_ _) | (with_reducible refine Kd.C_drewN ?_ _) | (with_reducible refine Kd.C_drew ?_))); (case side2 => exact HC131_0.out); rintro e w' ⟨rfl, ⟨nd, rfl⟩⟩; (try first | exact ⟨rfl, _, World.drewN_drewN _ _ _⟩ | exact ⟨rfl, _, Eq.trans (World.drewN_drewN _ _ _) (congrArg (World.drewN _) (Nat.add_assoc _ _ _))⟩); have p133 : 0 ≤ (x3_1 : Int) := of_decide_eq_true (by first | (with_reducible assumption) | assumption); have q133 : x3_1 < (l0.length : Int) := of_decide_eq_true (by first | (with_reducible assumption) | assumption); obtain ⟨ad133, A133_0, c133_0, e133, hx133_0, hl133_0, hi133_0⟩ := at_L1 HR0.out x3_1 p133 q133; obtain rfl : ad131 = ad133 := (by injection e133); have HR133_0 := Aside0.mk hi133_0; have HC133_0 := Aside0.mk hl133_0; clear hi133_0 hl133_0; replace p133 := eq_true p133; replace q133 := eq_true q133; have ea_ := Option.some.inj (hx131_0.symm.trans hx133_0); injection ea_ with ea_ en_ ec_; subst ea_; subst ec_; clear en_; have p134 : 0 ≤ (0 : Int) := (by omega); have q134 : 0 < (l0.length : Int) := of_decide_eq_true (by first | (with_reducible assumption) | assumption); obtain ⟨ad134, A134_0, c134_0, e134, hx134_0, hl134_0, hi134_0⟩ := at_L1 HR0.out 0 p134 q134; obtain rfl : ad131 = ad134 := (by injection e134); have qi134 : (0 < l0.length) = True := eq_true (by omega); (try rw [show ((0 : Int)).toNat = 0 from rfl] at hx134_0); (try rw [Addr.add_zero'] at hx134_0); have HR134_0 := Aside0.mk hi134_0; have HC134_0 := Aside0.mk hl134_0; clear hi134_0 hl134_0; replace p134 := eq_true p134; replace q134 := eq_true q134))
                repeat (go_quiet (first | (go_at_call 21; (with_reducible refine (antiquaryref04_Valid.calls k1 _ _ (rd_L1 l0 x3_1) true _ ?side1 ?side2 A4.out).mono ?_); (case side1 => repeat (first | exact HR131_0.out | (with_reducible refine Kd.C_alloc ?_ _) | (with_reducible refine Kd.C_drewN ?_ _) | (with_reducible refine Kd.C_drew ?_))); (case side2 => exact HC131_0.out); rintro e w' ⟨rfl, ⟨nd, rfl⟩⟩; (try first | exact ⟨rfl, _, World.drewN_drewN _ _ _⟩ | exact ⟨rfl, _, Eq.trans (World.drewN_drewN _ _ _) (congrArg (World.drewN _) (Nat.add_assoc _ _ _))⟩); have p133 : 0 ≤ (x3_1 : Int) := of_decide_eq_true (by first | (with_reducible assumption) | assumption); have q133 : x3_1 < (l0.length : Int) := of_decide_eq_true (by first | (with_reducible assumption) | assumption); obtain ⟨ad133, A133_0, c133_0, e133, hx133_0, hl133_0, hi133_0⟩ := at_L1 HR0.out x3_1 p133 q133; obtain rfl : ad131 = ad133 := (by injection e133); have HR133_0 := Aside0.mk hi133_0; have HC133_0 := Aside0.mk hl133_0; clear hi133_0 hl133_0; replace p133 := eq_true p133; replace q133 := eq_true q133; have ea_ := Option.some.inj (hx131_0.symm.trans hx133_0); injection ea_ with ea_ en_ ec_; subst ea_; subst ec_; clear en_; have p134 : 0 ≤ (0 : Int) := (by omega); have q134 : 0 < (l0.length : Int) := of_decide_eq_true (by first | (with_reducible assumption) | assumption); obtain ⟨ad134, A134_0, c134_0, e134, hx134_0, hl134_0, hi134_0⟩ := at_L1 HR0.out 0 p134 q134; obtain rfl : ad131 = ad134 := (by injection e134); have qi134 : (0 < l0.length) = True := eq_true (by omega); (try rw [show ((0 : Int)).toNat = 0 from rfl] at hx134_0); (try rw [Addr.add_zero'] at hx134_0); have HR134_0 := Aside0.mk hi134_0; have HC134_0 := Aside0.mk hl134_0; clear hi134_0 hl134_0; replace p134 := eq_true p134; replace q134 := eq_true q134)); try go_wp2_with (first | (go_at_call 21; (with_reducible refine (antiquaryref04_Valid.calls k1 _ _ (rd_L1 l0 x3_1) true _ ?side1 ?side2 A4.out).mono ?_); (case side1 => repeat (first | exact HR131_0.out | (with_reducible refine Kd.C_alloc ?_ _) | (with_reducible refine Kd.C_drewN ?_ _) | (with_reducible refine Kd.C_drew ?_))); (case side2 => exact HC131_0.out); rintro e w' ⟨rfl, ⟨nd, rfl⟩⟩; (try first | exact ⟨rfl, _, World.drewN_drewN _ _ _⟩ | exact ⟨rfl, _, Eq.trans (World.drewN_drewN _ _ _) (congrArg (World.drewN _) (Nat.add_assoc _ _ _))⟩); have p133 : 0 ≤ (x3_1 : Int) := of_decide_eq_true (by first | (with_reducible assumption) | assumption); have q133 : x3_1 < (l0.length : Int) := of_decide_eq_true (by first | (with_reducible assumption) | assumption); obtain ⟨ad133, A133_0, c133_0, e133, hx133_0, hl133_0, hi133_0⟩ := at_L1 HR0.out x3_1 p133 q133; obtain rfl : ad131 = ad133 := (by injection e133); have HR133_0 := Aside0.mk hi133_0; have HC133_0 := Aside0.mk hl133_0; clear hi133_0 hl133_0; replace p133 := eq_true p133; replace q133 := eq_true q133; have ea_ := Option.some.inj (hx131_0.symm.trans hx133_0); injection ea_ with ea_ en_ ec_; subst ea_; subst ec_; clear en_; have p134 : 0 ≤ (0 : Int) := (by omega); have q134 : 0 < (l0.length : Int) := of_decide_eq_true (by first | (with_reducible assumption) | assumption); obtain ⟨ad134, A134_0, c134_0, e134, hx134_0, hl134_0, hi134_0⟩ := at_L1 HR0.out 0 p134 q134; obtain rfl : ad131 = ad134 := (by injection e134); have qi134 : (0 < l0.length) = True := eq_true (by omega); (try rw [show ((0 : Int)).toNat = 0 from rfl] at hx134_0); (try rw [Addr.add_zero'] at hx134_0); have HR134_0 := Aside0.mk hi134_0; have HC134_0 := Aside0.mk hl134_0; clear hi134_0 hl134_0; replace p134 := eq_true p134; replace q134 := eq_true q134)))
                go_roundg k1
                case measure => have := HK1.out; omega
                case rel => exact ⟨(wrap64 (x3_1 + 1)), (by first | rfl | (simp; done) | (simp [*]; done)), H', ⟨by have := HK1.out; omega⟩, by repeat (first | exact Drawn0.refl _ | apply Drawn0.step)⟩
              · rw [if_neg c7] at H
                have c7b0 : (((rd_L1 l0 x3_1).length : Int) == ((rd_L1 l0 0).length : Int)) = false := beq_eq_false_iff_ne.mpr c7
                have c7b1 : (((rd_L1 l0 x3_1).length : Int) != ((rd_L1 l0 0).length : Int)) = true := bne_iff_ne.mpr c7
                have c7b2 : ((rd_L1 l0 x3_1).length == (rd_L1 l0 0).length) = false := by first | simpa using c7 | (simp at c7 ⊢; omega)
                obtain rfl := Option.some.inj H
                have p131 : 0 ≤ (x3_1 : Int) := of_decide_eq_true (by first | (with_reducible assumption) | assumption)
                have q131 : x3_1 < (l0.length : Int) := of_decide_eq_true (by first | (with_reducible assumption) | assumption)
                obtain ⟨ad131, A131_0, c131_0, e131, hx131_0, hl131_0, hi131_0⟩ := at_L1 HR0.out x3_1 p131 q131
                cases e131
                have HR131_0 := Aside0.mk hi131_0
                have HC131_0 := Aside0.mk hl131_0
                clear hi131_0 hl131_0
                replace p131 := eq_true p131
                replace q131 := eq_true q131
                go_wp2_with (first | (go_at_call 21; (with_reducible refine (antiquaryref04_Valid.calls k1 _ _ (rd_L1 l0 x3_1) true _ ?side1 ?side2 A4.out).mono ?_); (case side1 => repeat (first | exact HR131_0.out | (with_reducible refine Kd.C_alloc ?_ _) | (with_reducible refine Kd.C_drewN ?_ _) | (with_reducible refine Kd.C_drew ?_))); (case side2 => exact HC131_0.out); rintro e w' ⟨rfl, ⟨nd, rfl⟩⟩; (try first | exact ⟨rfl, _, World.drewN_drewN _ _ _⟩ | exact ⟨rfl, _, Eq.trans (World.drewN_drewN _ _ _) (congrArg (World.drewN _) (Nat.add_assoc _ _ _))⟩); have p133 : 0 ≤ (x3_1 : Int) := of_decide_eq_true (by first | (with_reducible assumption) | assumption); have q133 : x3_1 < (l0.length : Int) := of_decide_eq_true (by first | (with_reducible assumption) | assumption); obtain ⟨ad133, A133_0, c133_0, e133, hx133_0, hl133_0, hi133_0⟩ := at_L1 HR0.out x3_1 p133 q133; obtain rfl : ad131 = ad133 := (by injection e133); have HR133_0 := Aside0.mk hi133_0; have HC133_0 := Aside0.mk hl133_0; clear hi133_0 hl133_0; replace p133 := eq_true p133; replace q133 := eq_true q133; have ea_ := Option.some.inj (hx131_0.symm.trans hx133_0); injection ea_ with ea_ en_ ec_; subst ea_; subst ec_; clear en_; have p134 : 0 ≤ (0 : Int) := (by omega); have q134 : 0 < (l0.length : Int) := of_decide_eq_true (by first | (with_reducible assumption) | assumption); obtain ⟨ad134, A134_0, c134_0, e134, hx134_0, hl134_0, hi134_0⟩ := at_L1 HR0.out 0 p134 q134; obtain rfl : ad131 = ad134 := (by injection e134); have qi134 : (0 < l0.length) = True := eq_true (by omega); (try rw [show ((0 : Int)).toNat = 0 from rfl] at hx134_0); (try rw [Addr.add_zero'] at hx134_0); have HR134_0 := Aside0.mk hi134_0; have HC134_0 := Aside0.mk hl134_0; clear hi134_0 hl134_0; replace p134 := eq_true p134; replace q134 := eq_true q134))
                repeat (go_quiet (first | (go_at_call 21; (with_reducible refine (antiquaryref04_Valid.calls k1 _ _ (rd_L1 l0 x3_1) true _ ?side1 ?side2 A4.out).mono ?_); (case side1 => repeat (first | exact HR131_0.out | (with_reducible refine Kd.C_alloc ?_ _) | (with_reducible refine Kd.C_drewN ?_ _) | (with_reducible refine Kd.C_drew ?_))); (case side2 => exact HC131_0.out); rintro e w' ⟨rfl, ⟨nd, rfl⟩⟩; (try first | exact ⟨rfl, _, World.drewN_drewN _ _ _⟩ | exact ⟨rfl, _, Eq.trans (World.drewN_drewN _ _ _) (congrArg (World.drewN _) (Nat.add_assoc _ _ _))⟩); have p133 : 0 ≤ (x3_1 : Int) := of_decide_eq_true (by first | (with_reducible assumption) | assumption); have q133 : x3_1 < (l0.length : Int) := of_decide_eq_true (by first | (with_reducible assumption) | assumption); obtain ⟨ad133, A133_0, c133_0, e133, hx133_0, hl133_0, hi133_0⟩ := at_L1 HR0.out x3_1 p133 q133; obtain rfl : ad131 = ad133 := (by injection e133); have HR133_0 := Aside0.mk hi133_0; have HC133_0 := Aside0.mk hl133_0; clear hi133_0 hl133_0; replace p133 := eq_true p133; replace q133 := eq_true q133; have ea_ := Option.some.inj (hx131_0.symm.trans hx133_0); injection ea_ with ea_ en_ ec_; subst ea_; subst ec_; clear en_; have p134 : 0 ≤ (0 : Int) := (by omega); have q134 : 0 < (l0.length : Int) := of_decide_eq_true (by first | (with_reducible assumption) | assumption); obtain ⟨ad134, A134_0, c134_0, e134, hx134_0, hl134_0, hi134_0⟩ := at_L1 HR0.out 0 p134 q134; obtain rfl : ad131 = ad134 := (by injection e134); have qi134 : (0 < l0.length) = True := eq_true (by omega); (try rw [show ((0 : Int)).toNat = 0 from rfl] at hx134_0); (try rw [Addr.add_zero'] at hx134_0); have HR134_0 := Aside0.mk hi134_0; have HC134_0 := Aside0.mk hl134_0; clear hi134_0 hl134_0; replace p134 := eq_true p134; replace q134 := eq_true q134)); try go_wp2_with (first | (go_at_call 21; (with_reducible refine (antiquaryref04_Valid.calls k1 _ _ (rd_L1 l0 x3_1) true _ ?side1 ?side2 A4.out).mono ?_); (case side1 => repeat (first | exact HR131_0.out | (with_reducible refine Kd.C_alloc ?_ _) | (with_reducible refine Kd.C_drewN ?_ _) | (with_reducible refine Kd.C_drew ?_))); (case side2 => exact HC131_0.out); rintro e w' ⟨rfl, ⟨nd, rfl⟩⟩; (try first | exact ⟨rfl, _, World.drewN_drewN _ _ _⟩ | exact ⟨rfl, _, Eq.trans (World.drewN_drewN _ _ _) (congrArg (World.drewN _) (Nat.add_assoc _ _ _))⟩); have p133 : 0 ≤ (x3_1 : Int) := of_decide_eq_true (by first | (with_reducible assumption) | assumption); have q133 : x3_1 < (l0.length : Int) := of_decide_eq_true (by first | (with_reducible assumption) | assumption); obtain ⟨ad133, A133_0, c133_0, e133, hx133_0, hl133_0, hi133_0⟩ := at_L1 HR0.out x3_1 p133 q133; obtain rfl : ad131 = ad133 := (by injection e133); have HR133_0 := Aside0.mk hi133_0; have HC133_0 := Aside0.mk hl133_0; clear hi133_0 hl133_0; replace p133 := eq_true p133; replace q133 := eq_true q133; have ea_ := Option.some.inj (hx131_0.symm.trans hx133_0); injection ea_ with ea_ en_ ec_; subst ea_; subst ec_; clear en_; have p134 : 0 ≤ (0 : Int) := (by omega); have q134 : 0 < (l0.length : Int) := of_decide_eq_true (by first | (with_reducible assumption) | assumption); obtain ⟨ad134, A134_0, c134_0, e134, hx134_0, hl134_0, hi134_0⟩ := at_L1 HR0.out 0 p134 q134; obtain rfl : ad131 = ad134 := (by injection e134); have qi134 : (0 < l0.length) = True := eq_true (by omega); (try rw [show ((0 : Int)).toNat = 0 from rfl] at hx134_0); (try rw [Addr.add_zero'] at hx134_0); have HR134_0 := Aside0.mk hi134_0; have HC134_0 := Aside0.mk hl134_0; clear hi134_0 hl134_0; replace p134 := eq_true p134; replace q134 := eq_true q134)))
                go_ret
                exact ⟨by first | rfl | (simp; done) | (simp [*]; done), by repeat (first | exact Drawn0.refl _ | apply Drawn0.step)⟩
            · rw [if_neg c6] at H
              exact absurd H (by simp)
          · replace c5 := Bool.eq_false_iff.mpr c5
            subst c5
            have H1 : (some false) = some r := by rw [if_neg (show ¬ (false = true) by decide)] at H; exact H
            clear H
            have H := H1
            clear H1
            obtain rfl := Option.some.inj H
            have p131 : 0 ≤ (x3_1 : Int) := of_decide_eq_true (by first | (with_reducible assumption) | assumption)
            have q131 : x3_1 < (l0.length : Int) := of_decide_eq_true (by first | (with_reducible assumption) | assumption)
            obtain ⟨ad131, A131_0, c131_0, e131, hx131_0, hl131_0, hi131_0⟩ := at_L1 HR0.out x3_1 p131 q131
            cases e131
            have HR131_0 := Aside0.mk hi131_0
            have HC131_0 := Aside0.mk hl131_0
            clear hi131_0 hl131_0
            replace p131 := eq_true p131
            replace q131 := eq_true q131
            go_wp2_with (first | (go_at_call 21; (with_reducible refine (antiquaryref04_Valid.calls k1 _ _ (rd_L1 l0 x3_1) false _ ?side1 ?side2 A4.out).mono ?_); (case side1 => repeat (first | exact HR131_0.out | (with_reducible refine Kd.C_alloc ?_ _) | (with_reducible refine Kd.C_drewN ?_ _) | (with_reducible refine Kd.C_drew ?_))); (case side2 => exact HC131_0.out); rintro e w' ⟨rfl, ⟨nd, rfl⟩⟩; (try first | exact ⟨rfl, _, World.drewN_drewN _ _ _⟩ | exact ⟨rfl, _, Eq.trans (World.drewN_drewN _ _ _) (congrArg (World.drewN _) (Nat.add_assoc _ _ _))⟩)))
            repeat (go_quiet (first | (go_at_call 21; (with_reducible refine (antiquaryref04_Valid.calls k1 _ _ (rd_L1 l0 x3_1) false _ ?side1 ?side2 A4.out).mono ?_); (case side1 => repeat (first | exact HR131_0.out | (with_reducible refine Kd.C_alloc ?_ _) | (with_reducible refine Kd.C_drewN ?_ _) | (with_reducible refine Kd.C_drew ?_))); (case side2 => exact HC131_0.out); rintro e w' ⟨rfl, ⟨nd, rfl⟩⟩; (try first | exact ⟨rfl, _, World.drewN_drewN _ _ _⟩ | exact ⟨rfl, _, Eq.trans (World.drewN_drewN _ _ _) (congrArg (World.drewN _) (Nat.add_assoc _ _ _))⟩))); try go_wp2_with (first | (go_at_call 21; (with_reducible refine (antiquaryref04_Valid.calls k1 _ _ (rd_L1 l0 x3_1) false _ ?side1 ?side2 A4.out).mono ?_); (case side1 => repeat (first | exact HR131_0.out | (with_reducible refine Kd.C_alloc ?_ _) | (with_reducible refine Kd.C_drewN ?_ _) | (with_reducible refine Kd.C_drew ?_))); (case side2 => exact HC131_0.out); rintro e w' ⟨rfl, ⟨nd, rfl⟩⟩; (try first | exact ⟨rfl, _, World.drewN_drewN _ _ _⟩ | exact ⟨rfl, _, Eq.trans (World.drewN_drewN _ _ _) (congrArg (World.drewN _) (Nat.add_assoc _ _ _))⟩))))
            go_ret
            exact ⟨by first | rfl | (simp; done) | (simp [*]; done), by repeat (first | exact Drawn0.refl _ | apply Drawn0.step)⟩
        · rw [if_neg c3] at H
          exact absurd H (by simp)
      · rw [if_neg c2] at H
        have c2b0 : decide (x3_1 < (l0.length : Int)) = false := decide_eq_false c2
        clear c2
        by_cases c8 : (l0.length : Int) ≥ 1
        · rw [if_pos c8] at H
          have c8b0 : decide (1 ≤ (l0.length : Int)) = true := decide_eq_true c8
          have c8b1 : decide (1 ≤ l0.length) = true := decide_eq_true (by omega)
          clear c8
          obtain rfl := Option.some.inj H
          go_wp2
          repeat (go_quiet (fail); try go_wp2)
          go_ret
          exact ⟨by first | rfl | (simp; done) | (simp [*]; done), by repeat (first | exact Drawn0.refl _ | apply Drawn0.step)⟩
        · rw [if_neg c8] at H
          have c8b0 : decide (1 ≤ (l0.length : Int)) = false := decide_eq_false c8
          have c8b1 : decide (1 ≤ l0.length) = false := decide_eq_false (by omega)
          clear c8
          obtain rfl := Option.some.inj H
          go_wp2
          repeat (go_quiet (fail); try go_wp2)
          go_ret
          exact ⟨by first | rfl | (simp; done) | (simp [*]; done), by repeat (first | exact Drawn0.refl _ | apply Drawn0.step)⟩

-- STAGE 0 antiquaryref27_Few
/-! ### antiquaryref27_Few: function 7 -/
def antiquaryref27_Few.l0 : Nat → Int → List (S39) → Option (Bool)
  | 0, _, _ => none
  | k + 1, x3, x136000 => if x3 < (x136000.length : Int) then (if 0 ≤ x3 then (if (((rd_T39 x136000 x3).f1).length : Int) > 40 then (some false) else (antiquaryref27_Few.l0 k (wrap64 (x3 + 1)) x136000)) else (none)) else (some true)
def antiquaryref27_Few.f (k : Nat) (l0_0 : List (S39)) : Option (Bool) := if (l0_0.length : Int) > 30 then (some false) else (antiquaryref27_Few.l0 k 0 l0_0)
theorem antiquaryref27_Few.mono_l : ∀ k, (∀ y0 y1, LeO (antiquaryref27_Few.l0 k y0 y1) (antiquaryref27_Few.l0 (k + 1) y0 y1))
  | 0 => fun _ _ r h => by simp [antiquaryref27_Few.l0] at h
  | k + 1 => by
    have ih0 := antiquaryref27_Few.mono_l k
    · intro y0 y1
      unfold antiquaryref27_Few.l0
      repeat' first
      | (with_reducible exact ih0 _ _)
      | (with_reducible exact LeO.refl _)
      | (with_reducible exact LeO.none _)
      | (with_reducible refine LeO.ite ?_ ?_)
      | (with_reducible refine LeO.bind ?_ (fun _ => ?_))
      | exact ih0 _ _
      | exact LeO.none _
      | refine LeO.ite ?_ ?_
      | refine LeO.bind ?_ (fun _ => ?_)
theorem antiquaryref27_Few.mono : ∀ a0 k, LeO (antiquaryref27_Few.f k a0) (antiquaryref27_Few.f (k + 1) a0) := by
  intro a0 k
  have ih0 := antiquaryref27_Few.mono_l k
  unfold antiquaryref27_Few.f
  repeat' first
      | (with_reducible exact ih0 _ _)
      | (with_reducible exact LeO.refl _)
      | (with_reducible exact LeO.none _)
      | (with_reducible refine LeO.ite ?_ ?_)
      | (with_reducible refine LeO.bind ?_ (fun _ => ?_))
      | exact ih0 _ _
      | exact LeO.none _
      | refine LeO.ite ?_ ?_
      | refine LeO.bind ?_ (fun _ => ?_)
set_option maxHeartbeats 8000000 in
set_option maxRecDepth 100000 in
theorem antiquaryref27_Few.calls (k : Nat) (A0_0 : Option Addr) (c0_0 : Nat) (l0_0 : List (S39)) (r : Bool) (w : World) (hr0_0 : Kd.C k39 w A0_0 l0_0.length l0_0) (hc0_0 : l0_0.length ≤ c0_0) (h : antiquaryref27_Few.f k l0_0 = some r) :
    Calls Try.prog 7 #[.agg #[.slice A0_0 l0_0.length c0_0]] w fun e w' => e = .returned (.bool r) ∧ Below w.heap.size w w' := by
  have hu25 := Try.underlying25
  have HR0_0 := Aside0.mk hr0_0
  have HC0_0 := Aside0.mk hc0_0
  clear hr0_0 hc0_0
  have HB := Aside0.mk (Below.refl w.heap.size w)
  have H : (if (l0_0.length : Int) > 30 then (some false) else (antiquaryref27_Few.l0 k 0 l0_0)) = some r := h
  clear h
  by_cases c2 : (l0_0.length : Int) > 30
  · rw [if_pos c2] at H
    have c2b0 : decide (30 < (l0_0.length : Int)) = true := decide_eq_true c2
    have c2b1 : decide (30 < l0_0.length) = true := decide_eq_true (by omega)
    clear c2
    obtain rfl := Option.some.inj H
    go_enter Try.func7, Try.ntmps7
    go_wp2_with (first | ((with_reducible refine gate_dst (N := 1) rfl ?_); refine box_event ?hg (N := 1) ?hd (cs := #[.slice A0_0 l0_0.length c0_0]) (t := 25) ?hr ?_; (case hd => rfl); (case hg => rfl); (case hr => first | (go_simp; done) | (go_simp; rfl)); intro gb135 hg w3 hbox hb; have n0_ := Aside0.mk (below_step (by repeat (first | (with_reducible first | exact HB.out | apply below_alloc | apply pw_below_drewN | apply below_drew1) | exact HB.out)) hb); have n1_ := Aside0.mk (hbox); have n2_ := Aside0.mk ((by rw [hg]; exact (below_size (by repeat (first | (with_reducible first | exact HB.out | apply below_alloc | apply pw_below_drewN | apply below_drew1) | exact HB.out))) : w.heap.size ≤ gb135)); have n3_ := Aside0.mk ((by rw [hg]; exact (below_size (by repeat (first | (with_reducible first | exact HB.out | apply below_alloc | apply pw_below_drewN | apply below_drew1) | exact HB.out))) : w.heap.size ≤ gb135)); clear HB; have HB := n0_; have BK135 := n1_; have GW135 := n2_; have GE135 := n3_; clear n0_ n1_ n2_ n3_; clear hb hbox hg; have hcz4_0 : w3.cell? ⟨gb135, 0, none⟩ = some (.slice A0_0 l0_0.length c0_0) := (blk_cell BK135.out 0).trans rfl; have hfz4_0 := blk_frozen BK135.out 0))
    go_ret
    exact ⟨by first | rfl | (simp [errW_none, errW_some] <;> rfl) | (simp [*, errW_none, errW_some] <;> rfl), by repeat (first | (with_reducible first | exact HB.out | apply below_alloc | apply pw_below_drewN | apply below_drew1 | refine below_set ?_ GE135.out) | exact HB.out)⟩
  · rw [if_neg c2] at H
    have c2b0 : decide (30 < (l0_0.length : Int)) = false := decide_eq_false c2
    have c2b1 : decide (30 < l0_0.length) = false := decide_eq_false (by omega)
    clear c2
    have H' := Aside0.mk H
    clear H
    go_enter Try.func7, Try.ntmps7
    go_wp2_with (first | ((with_reducible refine gate_dst (N := 1) rfl ?_); refine box_event ?hg (N := 1) ?hd (cs := #[.slice A0_0 l0_0.length c0_0]) (t := 25) ?hr ?_; (case hd => rfl); (case hg => rfl); (case hr => first | (go_simp; done) | (go_simp; rfl)); intro gb135 hg w5 hbox hb; have n0_ := Aside0.mk (below_step (by repeat (first | (with_reducible first | exact HB.out | apply below_alloc | apply pw_below_drewN | apply below_drew1) | exact HB.out)) hb); have n1_ := Aside0.mk (hbox); have n2_ := Aside0.mk ((by rw [hg]; exact (below_size (by repeat (first | (with_reducible first | exact HB.out | apply below_alloc | apply pw_below_drewN | apply below_drew1) | exact HB.out))) : w.heap.size ≤ gb135)); have n3_ := Aside0.mk ((by rw [hg]; exact (below_size (by repeat (first | (with_reducible first | exact HB.out | apply below_alloc | apply pw_below_drewN | apply below_drew1) | exact HB.out))) : w.heap.size ≤ gb135)); clear HB; have HB := n0_; have BK135 := n1_; have GW135 := n2_; have GE135 := n3_; clear n0_ n1_ n2_ n3_; clear hb hbox hg; have hcz6_0 : w5.cell? ⟨gb135, 0, none⟩ = some (.slice A0_0 l0_0.length c0_0) := (blk_cell BK135.out 0).trans rfl; have hfz6_0 := blk_frozen BK135.out 0))
    go_loopg [3] k (fun kq v3 w' => ∃ (x3_1 : Int), v3 = .int .i64 x3_1 ∧ Aside0 (antiquaryref27_Few.l0 kq x3_1 l0_0 = some r) ∧ Aside0 (kq ≤ k) ∧ Aside0 (w'.heap[gb135]? = some (.cells #[(.slice A0_0 l0_0.length c0_0)] 25 (0, 0))) ∧ Aside0 (Below w.heap.size w w'))
    case atStart => exact ⟨(0), (by first | rfl | (simp; done) | (simp [*]; done)), H', ⟨Nat.le_refl _⟩, ⟨by (with_reducible repeat (first | refine blk_drewN ?_ _ | refine blk_drew ?_ | refine blk_alloc ?_ _)); exact BK135.out⟩, ⟨by repeat (first | (with_reducible first | exact HB.out | apply below_alloc | apply pw_below_drewN | apply below_drew1 | refine below_set ?_ GE135.out) | exact HB.out)⟩⟩
    case round =>
      clear H'
      try clear c2
      try clear c2b0
      try clear c2b1
      try clear p2
      try clear hcz4_0
      try clear hcz6_0
      try clear hfz4_0
      try clear hfz6_0
      obtain ⟨x3_1, rfl, HA, HK1, BK135, HB⟩ := hrel
      cases gk with
      | zero => exact absurd HA.out (by simp [antiquaryref27_Few.l0])
      | succ k1 =>
        have H := HA.out
        clear HA
        simp only [antiquaryref27_Few.l0] at H
        by_cases c7 : x3_1 < (l0_0.length : Int)
        · rw [if_pos c7] at H
          have c7b0 : decide (x3_1 < (l0_0.length : Int)) = true := decide_eq_true c7
          clear c7
          by_cases c8 : 0 ≤ x3_1
          · rw [if_pos c8] at H
            have c8b0 : decide (0 ≤ x3_1) = true := decide_eq_true c8
            clear c8
            by_cases c9 : (((rd_T39 l0_0 x3_1).f1).length : Int) > 40
            · rw [if_pos c9] at H
              have c9b0 : decide (40 < (((rd_T39 l0_0 x3_1).f1).length : Int)) = true := decide_eq_true c9
              have c9b1 : decide (40 < ((rd_T39 l0_0 x3_1).f1).length) = true := decide_eq_true (by omega)
              clear c9
              obtain rfl := Option.some.inj H
              have hcz10_0 : wr.cell? ⟨gb135, 0, none⟩ = some (.slice A0_0 l0_0.length c0_0) := (blk_cell BK135.out 0).trans rfl
              have hfz10_0 := blk_frozen BK135.out 0
              have p136 : 0 ≤ (x3_1 : Int) := of_decide_eq_true (by first | (with_reducible assumption) | assumption)
              have q136 : x3_1 < (l0_0.length : Int) := of_decide_eq_true (by first | (with_reducible assumption) | assumption)
              obtain ⟨ad136, A136_1, c136_1, e136, hx136_0, hx136_1, hl136_1, hi136_1⟩ := at_T39 HR0_0.out x3_1 p136 q136
              cases e136
              replace hx136_0 := (HB.out.cell (World.block_lt_of_cell? w _ hx136_0)).trans hx136_0
              replace hx136_1 := (HB.out.cell (World.block_lt_of_cell? w _ hx136_1)).trans hx136_1
              have HR136_1 := Aside0.mk hi136_1
              have HC136_1 := Aside0.mk hl136_1
              clear hi136_1 hl136_1
              replace p136 := eq_true p136
              replace q136 := eq_true q136
              go_wp2
              go_ret
              exact ⟨by first | rfl | (simp [errW_none, errW_some] <;> rfl) | (simp [*, errW_none, errW_some] <;> rfl), by repeat (first | (with_reducible first | exact HB.out | apply below_alloc | apply pw_below_drewN | apply below_drew1 | refine below_set ?_ GE135.out) | exact HB.out)⟩
            · rw [if_neg c9] at H
              have c9b0 : decide (40 < (((rd_T39 l0_0 x3_1).f1).length : Int)) = false := decide_eq_false c9
              have c9b1 : decide (40 < ((rd_T39 l0_0 x3_1).f1).length) = false := decide_eq_false (by omega)
              clear c9
              have H' := Aside0.mk H
              clear H
              have hcz11_0 : wr.cell? ⟨gb135, 0, none⟩ = some (.slice A0_0 l0_0.length c0_0) := (blk_cell BK135.out 0).trans rfl
              have hfz11_0 := blk_frozen BK135.out 0
              have p136 : 0 ≤ (x3_1 : Int) := of_decide_eq_true (by first | (with_reducible assumption) | assumption)
              have q136 : x3_1 < (l0_0.length : Int) := of_decide_eq_true (by first | (with_reducible assumption) | assumption)
              obtain ⟨ad136, A136_1, c136_1, e136, hx136_0, hx136_1, hl136_1, hi136_1⟩ := at_T39 HR0_0.out x3_1 p136 q136
              cases e136
              replace hx136_0 := (HB.out.cell (World.block_lt_of_cell? w _ hx136_0)).trans hx136_0
              replace hx136_1 := (HB.out.cell (World.block_lt_of_cell? w _ hx136_1)).trans hx136_1
              have HR136_1 := Aside0.mk hi136_1
              have HC136_1 := Aside0.mk hl136_1
              clear hi136_1 hl136_1
              replace p136 := eq_true p136
              replace q136 := eq_true q136
              go_wp2
              go_roundg k1
              case measure => have := HK1.out; omega
              case rel => exact ⟨(wrap64 (x3_1 + 1)), (by first | rfl | (simp; done) | (simp [*]; done)), H', ⟨by have := HK1.out; omega⟩, ⟨by (with_reducible repeat (first | refine blk_drewN ?_ _ | refine blk_drew ?_ | refine blk_alloc ?_ _)); exact BK135.out⟩, ⟨by repeat (first | (with_reducible first | exact HB.out | apply below_alloc | apply pw_below_drewN | apply below_drew1 | refine below_set ?_ GE135.out) | exact HB.out)⟩⟩
          · rw [if_neg c8] at H
            exact absurd H (by simp)
        · rw [if_neg c7] at H
          have c7b0 : decide (x3_1 < (l0_0.length : Int)) = false := decide_eq_false c7
          clear c7
          obtain rfl := Option.some.inj H
          have hcz12_0 : wr.cell? ⟨gb135, 0, none⟩ = some (.slice A0_0 l0_0.length c0_0) := (blk_cell BK135.out 0).trans rfl
          have hfz12_0 := blk_frozen BK135.out 0
          go_wp2
          go_ret
          exact ⟨by first | rfl | (simp [errW_none, errW_some] <;> rfl) | (simp [*, errW_none, errW_some] <;> rfl), by repeat (first | (with_reducible first | exact HB.out | apply below_alloc | apply pw_below_drewN | apply below_drew1 | refine below_set ?_ GE135.out) | exact HB.out)⟩

-- STAGE 0 antiquaryref27_has
/-! ### antiquaryref27_has: function 42 -/
def antiquaryref27_has.l0 : Nat → List Int → Int → Int → Option (Bool)
  | 0, _, _, _ => none
  | k + 1, x0, x1, x5 => if x5 < (x0.length : Int) then (if 0 ≤ x5 then (if (rd x0 x5) = x1 then (some true) else (antiquaryref27_has.l0 k x0 x1 (wrap64 (x5 + 1)))) else (none)) else (some false)
def antiquaryref27_has.f (k : Nat) (l0 : List Int) (a1 : Int) : Option (Bool) := antiquaryref27_has.l0 k l0 a1 0
theorem antiquaryref27_has.mono_l : ∀ k, (∀ y0 y1 y2, LeO (antiquaryref27_has.l0 k y0 y1 y2) (antiquaryref27_has.l0 (k + 1) y0 y1 y2))
  | 0 => fun _ _ _ r h => by simp [antiquaryref27_has.l0] at h
  | k + 1 => by
    have ih0 := antiquaryref27_has.mono_l k
    · intro y0 y1 y2
      unfold antiquaryref27_has.l0
      repeat' first
      | (with_reducible exact ih0 _ _ _)
      | (with_reducible exact LeO.refl _)
      | (with_reducible exact LeO.none _)
      | (with_reducible refine LeO.ite ?_ ?_)
      | (with_reducible refine LeO.bind ?_ (fun _ => ?_))
      | exact ih0 _ _ _
      | exact LeO.none _
      | refine LeO.ite ?_ ?_
      | refine LeO.bind ?_ (fun _ => ?_)
theorem antiquaryref27_has.mono : ∀ a0 a1 k, LeO (antiquaryref27_has.f k a0 a1) (antiquaryref27_has.f (k + 1) a0 a1) := by
  intro a0 a1 k
  have ih0 := antiquaryref27_has.mono_l k
  unfold antiquaryref27_has.f
  repeat' first
      | (with_reducible exact ih0 _ _ _)
      | (with_reducible exact LeO.refl _)
      | (with_reducible exact LeO.none _)
      | (with_reducible refine LeO.ite ?_ ?_)
      | (with_reducible refine LeO.bind ?_ (fun _ => ?_))
      | exact ih0 _ _ _
      | exact LeO.none _
      | refine LeO.ite ?_ ?_
      | refine LeO.bind ?_ (fun _ => ?_)
set_option maxHeartbeats 8000000 in
set_option maxRecDepth 100000 in
theorem antiquaryref27_has.calls (k : Nat) (A0 : Option Addr) (c0 : Nat) (l0 : List Int) (a1 : Int) (r : Bool) (w : World) (hr0 : Kd.C (Kd.int .i64) w A0 l0.length l0) (hc0 : l0.length ≤ c0) (h : antiquaryref27_has.f k l0 a1 = some r) :
    Calls Try.prog 42 #[.slice A0 l0.length c0, .int .i64 a1] w fun e w' => e = .returned (.bool r) ∧ Drawn0 w w' := by
  have HR0 := Aside0.mk hr0
  have HC0 := Aside0.mk hc0
  clear hr0 hc0
  have H : (antiquaryref27_has.l0 k l0 a1 0) = some r := h
  clear h
  have H' := Aside0.mk H
  clear H
  go_enter Try.func42, Try.ntmps42
  go_wp2
  go_loopg [5] k (fun kq v5 w' => ∃ (x5_1 : Int), v5 = .int .i64 x5_1 ∧ Aside0 (antiquaryref27_has.l0 kq l0 a1 x5_1 = some r) ∧ Aside0 (kq ≤ k) ∧ Drawn0 w w')
  case atStart => exact ⟨(0), (by first | rfl | (simp; done) | (simp [*]; done)), H', ⟨Nat.le_refl _⟩, by repeat (first | exact Drawn0.refl _ | apply Drawn0.step)⟩
  case round =>
    clear H'
    try clear p2
    obtain ⟨x5_1, rfl, HA, HK1, ⟨m1, rfl⟩⟩ := hrel
    cases gk with
    | zero => exact absurd HA.out (by simp [antiquaryref27_has.l0])
    | succ k1 =>
      have H := HA.out
      clear HA
      simp only [antiquaryref27_has.l0] at H
      by_cases c3 : x5_1 < (l0.length : Int)
      · rw [if_pos c3] at H
        have c3b0 : decide (x5_1 < (l0.length : Int)) = true := decide_eq_true c3
        clear c3
        by_cases c4 : 0 ≤ x5_1
        · rw [if_pos c4] at H
          have c4b0 : decide (0 ≤ x5_1) = true := decide_eq_true c4
          clear c4
          by_cases c5 : (rd l0 x5_1) = a1
          · rw [if_pos c5] at H
            have c5b0 : ((rd l0 x5_1) == a1) = true := beq_iff_eq.mpr c5
            have c5b1 : ((rd l0 x5_1) != a1) = false := bne_eq_false_iff_eq.mpr c5
            clear c5
            obtain rfl := Option.some.inj H
            have p137 : 0 ≤ (x5_1 : Int) := of_decide_eq_true (by first | (with_reducible assumption) | assumption)
            have q137 : x5_1 < (l0.length : Int) := of_decide_eq_true (by first | (with_reducible assumption) | assumption)
            obtain ⟨ad137, e137, hx137_0⟩ := Kd.at_int HR0.out x5_1 p137 q137
            cases e137
            replace p137 := eq_true p137
            replace q137 := eq_true q137
            go_wp2
            go_ret
            exact ⟨by first | rfl | (simp; done) | (simp [*]; done), by repeat (first | exact Drawn0.refl _ | apply Drawn0.step)⟩
          · rw [if_neg c5] at H
            have c5b0 : ((rd l0 x5_1) == a1) = false := beq_eq_false_iff_ne.mpr c5
            have c5b1 : ((rd l0 x5_1) != a1) = true := bne_iff_ne.mpr c5
            have H' := Aside0.mk H
            clear H
            have p137 : 0 ≤ (x5_1 : Int) := of_decide_eq_true (by first | (with_reducible assumption) | assumption)
            have q137 : x5_1 < (l0.length : Int) := of_decide_eq_true (by first | (with_reducible assumption) | assumption)
            obtain ⟨ad137, e137, hx137_0⟩ := Kd.at_int HR0.out x5_1 p137 q137
            cases e137
            replace p137 := eq_true p137
            replace q137 := eq_true q137
            go_wp2
            go_roundg k1
            case measure => have := HK1.out; omega
            case rel => exact ⟨(wrap64 (x5_1 + 1)), (by first | rfl | (simp; done) | (simp [*]; done)), H', ⟨by have := HK1.out; omega⟩, by repeat (first | exact Drawn0.refl _ | apply Drawn0.step)⟩
        · rw [if_neg c4] at H
          exact absurd H (by simp)
      · rw [if_neg c3] at H
        have c3b0 : decide (x5_1 < (l0.length : Int)) = false := decide_eq_false c3
        clear c3
        obtain rfl := Option.some.inj H
        go_wp2
        go_ret
        exact ⟨by first | rfl | (simp; done) | (simp [*]; done), by repeat (first | exact Drawn0.refl _ | apply Drawn0.step)⟩

end Go.Proofs.Ythbkomkgciemiaa.PKM
/- The reference's small functions in plain terms. -/
namespace Go.Proofs.Ythbkomkgciemiaa.PKM
open Go.Proofs.Ythbkomkgciemiaa.RF
open Go.RowKit Go.Proofs.YthbkomkgciemiaaW.PrintWords Go.Proofs.YthbkomkgciemiaaW.PrintLast Go.Proofs.YthbkomkgciemiaaW.PrintMore
attribute [local go_sem] max2_int min2_int max_two min_two max_three min_three max_four min_four
set_option linter.unusedVariables false
set_option linter.unusedSimpArgs false
def fewL (l : List (List Int)) : Prop := l.length ≤ 25 ∧ ∀ v ∈ l, v.length ≤ 40
def fewG (g : List Hd) : Prop := g.length ≤ 30 ∧ ∀ h ∈ g, h.f1.length ≤ 40
theorem few09_loop (l : List (List Int)) (hl : l.length ≤ 25) (d : Nat) : ∀ i : Nat, i + d = l.length → ∃ k r, antiquaryref09_Few.l0 k l i = some r ∧ (r = true → ∀ j : Nat, i ≤ j → j < l.length → (rdL l j).length ≤ 40) := by
  induction d with
  | zero =>
    intro i hi
    refine ⟨1, true, ?_, fun _ j h1 h2 => by omega⟩
    unfold antiquaryref09_Few.l0; rw [if_neg (by omega)]
  | succ d ih =>
    intro i hi
    obtain ⟨k, r, h1, h2⟩ := ih (i + 1) (by omega)
    by_cases c : ((rdL l i).length : Int) > 40
    · refine ⟨1, false, ?_, fun h => by cases h⟩
      unfold antiquaryref09_Few.l0; rw [if_pos (by omega), if_pos (by omega)]; exact if_pos c
    · refine ⟨k + 1, r, ?_, fun h j h3 h4 => ?_⟩
      · unfold antiquaryref09_Few.l0; rw [if_pos (by omega), if_pos (by omega)]
        refine (if_neg c).trans ?_
        rw [w64 (by omega)]; exact h1
      · rcases Nat.lt_or_ge i j with h5 | h5
        · exact h2 h j h5 h4
        · have : j = i := by omega
          subst this; omega
theorem rdL_get (l : List (List Int)) (j : Nat) (h : j < l.length) : rdL l j = l[j] := by simp [rdL, h]
theorem few09_ex (l : List (List Int)) : ∃ k r, antiquaryref09_Few.f k l 25 = some r ∧ (r = true → fewL l) := by
  by_cases c : (l.length : Int) > 25
  · exact ⟨0, false, by unfold antiquaryref09_Few.f; rw [if_pos c], fun h => by cases h⟩
  · obtain ⟨k, r, h1, h2⟩ := few09_loop l (by omega) l.length 0 (by omega)
    refine ⟨k, r, by unfold antiquaryref09_Few.f; rw [if_neg c]; exact h1, fun h => ⟨by omega, fun v hv => ?_⟩⟩
    obtain ⟨j, hj, rfl⟩ := List.mem_iff_getElem.1 hv
    have := h2 h j (Nat.zero_le _) hj
    rwa [rdL_get l j hj] at this
theorem few27_loop (g : List Hd) (hl : g.length ≤ 30) (d : Nat) : ∀ i : Nat, i + d = g.length → ∃ k r, antiquaryref27_Few.l0 k i g = some r ∧ (r = true → ∀ j : Nat, i ≤ j → j < g.length → (rd_T39 g j).f1.length ≤ 40) := by
  induction d with
  | zero =>
    intro i hi
    refine ⟨1, true, ?_, fun _ j h1 h2 => by omega⟩
    unfold antiquaryref27_Few.l0; rw [if_neg (by omega)]
  | succ d ih =>
    intro i hi
    obtain ⟨k, r, h1, h2⟩ := ih (i + 1) (by omega)
    by_cases c : ((rd_T39 g i).f1.length : Int) > 40
    · refine ⟨1, false, ?_, fun h => by cases h⟩
      unfold antiquaryref27_Few.l0; rw [if_pos (by omega), if_pos (by omega), if_pos c]
    · refine ⟨k + 1, r, ?_, fun h j h3 h4 => ?_⟩
      · unfold antiquaryref27_Few.l0; rw [if_pos (by omega), if_pos (by omega), if_neg c, w64 (by omega)]; exact h1
      · rcases Nat.lt_or_ge i j with h5 | h5
        · exact h2 h j h5 h4
        · have : j = i := by omega
          subst this; omega
theorem rdT_get (g : List Hd) (j : Nat) (h : j < g.length) : rd_T39 g j = g[j] := by unfold rd_T39; simp [h]
theorem few27_ex (g : List Hd) : ∃ k r, antiquaryref27_Few.f k g = some r ∧ (r = true → fewG g) := by
  by_cases c : (g.length : Int) > 30
  · exact ⟨0, false, by unfold antiquaryref27_Few.f; rw [if_pos c], fun h => by cases h⟩
  · obtain ⟨k, r, h1, h2⟩ := few27_loop g (by omega) g.length 0 (by omega)
    refine ⟨k, r, by unfold antiquaryref27_Few.f; rw [if_neg c]; exact h1, fun h => ⟨by omega, fun v hv => ?_⟩⟩
    obtain ⟨j, hj, rfl⟩ := List.mem_iff_getElem.1 hv
    have := h2 h j (Nat.zero_le _) hj
    rwa [rdT_get g j hj] at this
theorem metric09 (m : Int) : antiquaryref09_Metric.f m = some (decide (1 ≤ m ∧ m ≤ 3)) := by
  unfold antiquaryref09_Metric.f
  by_cases c : m ≥ 1
  · rw [if_pos c]; congr 1; by_cases c2 : m ≤ 3 <;> simp [c2] <;> omega
  · rw [if_neg c]; congr 1; symm; simp; omega
theorem valid04_loop (v : List Int) (hv : v.length ≤ 9223372036854775807) (d : Nat) : ∀ i : Nat, i + d = v.length → (∀ j : Nat, j < i → -1000 ≤ rd v j ∧ rd v j ≤ 1000) → ∃ k, antiquaryref04_Valid.l0 k v i = some (validV v) := by
  induction d with
  | zero =>
    intro i hi hb
    have hall : ∀ x ∈ v, -1000 ≤ x ∧ x ≤ 1000 := by
      intro x hx
      obtain ⟨j, hj, rfl⟩ := mem_iff_rd.1 hx
      exact hb j (by omega)
    refine ⟨1, ?_⟩
    unfold antiquaryref04_Valid.l0
    rw [if_neg (by omega)]
    by_cases c1 : (v.length : Int) ≥ 1
    · rw [if_pos c1]; congr 1
      by_cases c2 : (v.length : Int) ≤ 32
      · rw [decide_eq_true c2]; exact (validV_iff.2 ⟨hall, by omega, by omega⟩).symm
      · rw [decide_eq_false c2]; symm
        cases hvv : validV v with
        | false => rfl
        | true => have := (validV_iff.1 hvv).2.2; omega
    · rw [if_neg c1]; congr 1; symm
      cases hvv : validV v with
      | false => rfl
      | true => have := (validV_iff.1 hvv).2.1; omega
  | succ d ih =>
    intro i hi hb
    have hno : ¬ (-1000 ≤ rd v i ∧ rd v i ≤ 1000) → validV v = false := by
      intro hn
      cases hvv : validV v with
      | false => rfl
      | true => exact absurd ((validV_iff.1 hvv).1 _ (rd_mem (by omega) (by omega))) hn
    by_cases c1 : rd v i < -1000
    · refine ⟨1, ?_⟩
      unfold antiquaryref04_Valid.l0
      rw [if_pos (by omega), if_pos (by omega), if_pos c1, hno (by omega)]
    · by_cases c2 : rd v i > 1000
      · refine ⟨1, ?_⟩
        unfold antiquaryref04_Valid.l0
        rw [if_pos (by omega), if_pos (by omega), if_neg c1, if_pos c2, hno (by omega)]
      · obtain ⟨k, h⟩ := ih (i + 1) (by omega) (fun j hj => by
          rcases Nat.lt_or_ge j i with h5 | h5
          · exact hb j h5
          · have : j = i := by omega
            subst this; omega)
        refine ⟨k + 1, ?_⟩
        unfold antiquaryref04_Valid.l0
        rw [if_pos (by omega), if_pos (by omega), if_neg c1, if_neg c2, w64 (by omega)]; exact h
theorem valid04_ex (v : List Int) (hv : v.length ≤ 9223372036854775807) : ∃ k, antiquaryref04_Valid.f k v = some (validV v) := valid04_loop v hv v.length 0 (by omega) (fun j hj => by omega)
end Go.Proofs.Ythbkomkgciemiaa.PKM
/- The reference's Fit, Key, around, Same and SameGraph in plain terms. -/
namespace Go.Proofs.Ythbkomkgciemiaa.PKM
open Go.Proofs.Ythbkomkgciemiaa.RF
open Go.RowKit Go.Proofs.YthbkomkgciemiaaW.PrintWords Go.Proofs.YthbkomkgciemiaaW.PrintLast Go.Proofs.YthbkomkgciemiaaW.PrintMore
attribute [local go_sem] max2_int min2_int max_two min_two max_three min_three max_four min_four
set_option linter.unusedVariables false
set_option linter.unusedSimpArgs false
theorem rd_L1_eq (l : List (List Int)) (i : Int) : rd_L1 l i = rdL l i := rfl
/-- What fits. -/
def FitL (l : List (List Int)) : Prop := (1 ≤ l.length ∧ l.length ≤ 4096) ∧ ∀ v ∈ l, validV v = true ∧ v.length = (rdL l 0).length
theorem fit_loop (l : List (List Int)) (hl : fewL l) (d : Nat) : ∀ i : Nat, i + d = l.length → (∀ j : Nat, j < i → validV (rdL l j) = true ∧ (rdL l j).length = (rdL l 0).length) → ∃ k r, antiquaryref09_Fit.l0 k l i = some r ∧ (r = true ↔ FitL l) := by
  induction d with
  | zero =>
    intro i hi hb
    have hall : ∀ v ∈ l, validV v = true ∧ v.length = (rdL l 0).length := by
      intro v hv
      obtain ⟨j, hj, rfl⟩ := List.mem_iff_getElem.1 hv
      have := hb j (by omega)
      rwa [rdL_get l j hj] at this
    by_cases c1 : (l.length : Int) ≥ 1
    · refine ⟨1, decide ((l.length : Int) ≤ 4096), ?_, ?_⟩
      · unfold antiquaryref09_Fit.l0; rw [if_neg (by omega), if_pos c1]
      · rw [decide_eq_true_iff]
        exact ⟨fun h => ⟨⟨by omega, by omega⟩, hall⟩, fun h => by have := h.1.2; omega⟩
    · refine ⟨1, false, ?_, ⟨fun h => (by cases h), fun h => by have := h.1.1; omega⟩⟩
      unfold antiquaryref09_Fit.l0; rw [if_neg (by omega), if_neg c1]
  | succ d ih =>
    intro i hi hb
    have hmem : rdL l i ∈ l := rdL_mem (by omega) (by omega)
    have h40 := hl.2 _ hmem
    have h25 := hl.1
    obtain ⟨kv, hv⟩ := valid04_ex (rdL l i) (by omega)
    cases hvv : validV (rdL l i) with
    | false =>
      refine ⟨kv + 1, false, ?_, ⟨fun h => (by cases h), fun h => by have := (h.2 _ hmem).1; rw [hvv] at this; cases this⟩⟩
      unfold antiquaryref09_Fit.l0
      rw [if_pos (by omega), if_pos (by omega), rd_L1_eq, hv, hvv]; rfl
    | true =>
      by_cases c : ((rdL l i).length : Int) = ((rdL l 0).length : Int)
      · obtain ⟨k, r, h1, h2⟩ := ih (i + 1) (by omega) (fun j hj => by
          rcases Nat.lt_or_ge j i with h5 | h5
          · exact hb j h5
          · have : j = i := by omega
            subst this; exact ⟨hvv, by omega⟩)
        refine ⟨k + kv + 1, r, ?_, h2⟩
        unfold antiquaryref09_Fit.l0
        rw [if_pos (by omega), if_pos (by omega), rd_L1_eq, up_le (antiquaryref04_Valid.mono _) hv (show kv ≤ k + kv by omega), hvv]
        rw [Option.bind_some]
        rw [if_pos rfl, if_pos (by omega), rd_L1_eq, if_pos c, w64 (by omega)]
        exact up_le (f := fun k => antiquaryref09_Fit.l0 k l ((i : Int) + 1)) (fun k => antiquaryref09_Fit.mono_l k _ _) h1 (by omega)
      · refine ⟨kv + 1, false, ?_, ⟨fun h => (by cases h), fun h => by have := (h.2 _ hmem).2; omega⟩⟩
        unfold antiquaryref09_Fit.l0
        rw [if_pos (by omega), if_pos (by omega), rd_L1_eq, hv, hvv]
        rw [Option.bind_some]
        rw [if_pos rfl, if_pos (by omega), rd_L1_eq, if_neg c]
theorem fit_ex (l : List (List Int)) (hl : fewL l) : ∃ k r, antiquaryref09_Fit.f k l = some r ∧ (r = true ↔ FitL l) := fit_loop l hl l.length 0 (by omega) (fun j hj => by omega)
theorem right_iff_fit {m : Int} {l : List (List Int)} : rightF m l = true ↔ (1 ≤ m ∧ m ≤ 3) ∧ FitL l := by
  rw [rightF_iff]
  unfold FitL
  constructor
  · rintro ⟨h1, h2, h3⟩
    exact ⟨h1, h2, fun v hv => ⟨(alikeF_iff.1 (h3 v hv)).2.2, (alikeF_iff.1 (h3 v hv)).1.symm⟩⟩
  · rintro ⟨h1, h2, h3⟩
    refine ⟨h1, h2, fun v hv => alikeF_iff.2 ⟨(h3 v hv).2.symm, (h3 _ (rdL_mem (by omega) (by omega))).1, (h3 v hv).1⟩⟩
end Go.Proofs.Ythbkomkgciemiaa.PKM
