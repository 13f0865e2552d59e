/- Texts of this claim, merged: part 7. -/
import Derived.Test.YthbkomkgciemiaaGreatCF6
import Derived.Shelf.SlSortCmp.Xorshift
import Derived.Test.YthbkomkgciemiaaGreatProg
import Derived.Sort.LotD5
import Derived.Laws.Bits64b
import Derived.Test.YthbkomkgciemiaaGreatCF3
namespace Go.Proofs.YthbkomkgciemiaaGreat.PKF
open Go.Proofs.YthbkomkgciemiaaGreat.RF
open Go.RowKit Go.Proofs.YthbkomkgciemiaaGreatW.PrintWords Go.Proofs.YthbkomkgciemiaaGreatW.PrintLast Go.Proofs.YthbkomkgciemiaaGreatW.PrintMore
attribute [local go_sem] max2_int min2_int max_two min_two max_three min_three max_four min_four
set_option linter.unusedVariables false
set_option linter.unusedSimpArgs false
open Go.RowKit
open Go.Sort (grow swp scanUp scanDown partLoop partition)
theorem apart_of {p : Bool} {a b : Bool} (ha : false = (a && p)) (hb : false = (b && !p)) : a = false ∨ b = false := by revert ha hb; revert a b p; decide
theorem partLoop_two (F : Int → Int → Int) (A I J I5 J5 : Int) (d : Array Int) (h0 : 0 ≤ A) (h5 : 0 ≤ I5) (h6 : 0 ≤ J5) (hi : I5.toNat = scanUp (fun x => ltF F x d[A.toNat]!) d J.toNat I.toNat) (hj : J5.toNat = scanDown (fun x => !ltF F x d[A.toNat]!) d I5.toNat J.toNat) :
    (J5 < I5 → partLoop (ltF F) A.toNat I.toNat J.toNat d = (J5.toNat, d)) ∧ (I5 < J5 → partLoop (ltF F) A.toNat I.toNat J.toNat d = partLoop (ltF F) A.toNat (I5 + 1).toNat (J5 - 1).toNat (swp d I5.toNat J5.toNat)) := by
  have e := Go.Sort.partLoop_eq (ltF F) A.toNat I.toNat J.toNat d
  rw [← hi, ← hj] at e
  exact ⟨fun h => by rw [e, if_pos (by omega)], fun h => by rw [e, if_neg (by omega), show (I5 + 1).toNat = I5.toNat + 1 by omega, show (J5 - 1).toNat = J5.toNat - 1 by omega]⟩
theorem partition_two (F : Int → Int → Int) (d : Array Int) (A B P : Int) (d1 : Array Int) (I0 J0 I J : Int) (h0 : 0 ≤ A) (hb : 1 ≤ B) (h5 : 0 ≤ I) (h6 : 0 ≤ J) (hd1 : d1 = swp d A.toNat P.toNat) (hi0 : I0 = A + 1) (hj0 : J0 = B - 1)
    (hi : I.toNat = scanUp (fun x => ltF F x d1[A.toNat]!) d1 J0.toNat I0.toNat) (hj : J.toNat = scanDown (fun x => !ltF F x d1[A.toNat]!) d1 I.toNat J0.toNat) :
    (J < I → partition (ltF F) d A.toNat B.toNat P.toNat = (J.toNat, true, swp d1 J.toNat A.toNat)) ∧
    (I < J → partition (ltF F) d A.toNat B.toNat P.toNat = ((partLoop (ltF F) A.toNat (I + 1).toNat (J - 1).toNat (swp d1 I.toNat J.toNat)).1, false, swp (partLoop (ltF F) A.toNat (I + 1).toNat (J - 1).toNat (swp d1 I.toNat J.toNat)).2 (partLoop (ltF F) A.toNat (I + 1).toNat (J - 1).toNat (swp d1 I.toNat J.toNat)).1 A.toNat)) := by
  subst hi0 hj0
  rw [show (A + 1).toNat = A.toNat + 1 by omega, show (B - 1).toNat = B.toNat - 1 by omega] at hi
  rw [show (B - 1).toNat = B.toNat - 1 by omega] at hj
  have e : partition (ltF F) d A.toNat B.toNat P.toNat = if I.toNat > J.toNat then (J.toNat, true, swp d1 J.toNat A.toNat) else ((partLoop (ltF F) A.toNat (I.toNat + 1) (J.toNat - 1) (swp d1 I.toNat J.toNat)).1, false, swp (partLoop (ltF F) A.toNat (I.toNat + 1) (J.toNat - 1) (swp d1 I.toNat J.toNat)).2 (partLoop (ltF F) A.toNat (I.toNat + 1) (J.toNat - 1) (swp d1 I.toNat J.toNat)).1 A.toNat) := by
    subst hd1
    unfold partition
    dsimp only
    rw [← hi, ← hj]
  exact ⟨fun h => by rw [e, if_pos (by omega)], fun h => by rw [e, if_neg (by omega), show (I + 1).toNat = I.toNat + 1 by omega, show (J - 1).toNat = J.toNat - 1 by omega]⟩
set_option maxHeartbeats 4000000 in
set_option maxRecDepth 100000 in
theorem partC (recv : Value) (n : Nat) (F : Int → Int → Int) (base g cap N : Nat) (d : Array Int) (A B P : Int) (w : World) (hO : OrdB 37 recv n F base w) (hR : RowN g cap base N d w) (hin : InR n d) (h0 : 0 ≤ A) (hap : A ≤ P) (hpb : P < B) (hb : B ≤ (N : Int)) (hN : N ≤ 4096) :
    Calls Tryz.prog 96 #[.slice (some ⟨g, 0, none⟩) N cap, .int .i64 A, .int .i64 B, .int .i64 P, .func (.func 37) #[recv] #[]] w fun e w' => e = .returned (.tuple #[.int .i64 ((partition (ltF F) d A.toNat B.toNat P.toNat).1 : Nat), .bool (partition (ltF F) d A.toNat B.toNat P.toNat).2.1]) ∧ RowN g cap base N (partition (ltF F) d A.toNat B.toNat P.toNat).2.2 w' ∧ Below base w w' := by
  have hbg := rowN_base hR
  have hbs : base ≤ w.heap.size := Nat.le_of_lt (Nat.lt_of_le_of_lt hbg (rowN_lt hR))
  have HR := Aside0.mk hR
  have HO := Aside0.mk hO
  have HI := Aside0.mk hin
  have HS := Aside0.mk hR.1
  have HB0 := Aside0.mk (Below.refl base w)
  clear hO hR hin
  have l00 : 0 ≤ A := by omega
  have l10 : A < (N : Int) := by omega
  have l20 : 0 ≤ P := by omega
  have l30 : P < (N : Int) := by omega
  obtain ⟨d1, hd1⟩ : ∃ q, q = swp d A.toNat P.toNat := ⟨_, rfl⟩
  obtain ⟨i0, hi0⟩ : ∃ q, q = A.toNat := ⟨_, rfl⟩
  obtain ⟨j0, hj0⟩ : ∃ q, q = P.toNat := ⟨_, rfl⟩
  obtain ⟨x0, hx0⟩ : ∃ x, x = d[A.toNat]! := ⟨_, rfl⟩
  obtain ⟨y0, hy0⟩ : ∃ x, x = d[P.toNat]! := ⟨_, rfl⟩
  have SW0 := rowN_swap HR.out A.toNat P.toNat
  obtain ⟨q0, f0⟩ := rowN_at HR.out A (by omega) (by omega)
  obtain ⟨r0, g0⟩ := rowN_at HR.out P (by omega) (by omega)
  obtain ⟨u0, s0⟩ := rowN_second HR.out A P (by omega) (by omega) (.int .i64 y0)
  rw [← hd1, ← hx0, ← hy0, ← hi0, ← hj0] at SW0
  rw [← hx0, ← hi0] at q0
  rw [← hy0, ← hj0] at r0
  rw [← hi0] at f0
  rw [← hj0] at g0
  rw [← hi0, ← hj0] at s0
  have ei0 : A.toNat = i0 := hi0.symm
  have ej0 : P.toNat = j0 := hj0.symm
  have HSW0 := Aside0.mk SW0
  have Hd1 := Aside0.mk hd1
  clear SW0 hi0 hj0 hx0 hy0 hd1
  refine callsIn_wide (n := 0).1 ?_
  refine callsIn_of_wp Tryz.func96 rfl trivial ?_ rfl
  simp only [Tryz.ntmps96, List.size_toArray, List.length_cons, List.length_nil, Nat.reduceAdd, Nat.reduceSub, Array.replicate_succ, Array.replicate_zero, List.push_toArray, List.append_toArray, List.nil_append, List.cons_append]
  gi_wp2
  gi_region
  have HR1 := Aside0.mk (show RowN g cap base N d1 (((w.setCell ⟨g, i0, none⟩ (.int .i64 y0)).setCell ⟨g, j0, none⟩ (.int .i64 x0)).drew) from HSW0.out)
  have HB1 := Aside0.mk (below_drew ((HB0.out.setCell (p := ⟨g, i0, none⟩) hbg (.int .i64 y0)).setCell (p := ⟨g, j0, none⟩) hbg (.int .i64 x0)))
  clear q0 f0 r0 g0 s0 ei0 ej0 HSW0
  generalize ((w.setCell ⟨g, i0, none⟩ (.int .i64 y0)).setCell ⟨g, j0, none⟩ (.int .i64 x0)).drew = w1 at HR1 HB1 ⊢
  have HI1 := Aside0.mk (show InR n d1 by rw [Hd1.out]; exact inR_swp HI.out _ _ (by have := HS.out; omega) (by have := HS.out; omega))
  have HS1 := Aside0.mk HR1.out.1
  obtain ⟨I0, hI0⟩ : ∃ q : Int, q = A + 1 := ⟨_, rfl⟩
  obtain ⟨J0, hJ0⟩ : ∃ q : Int, q = B - 1 := ⟨_, rfl⟩
  have eI0 : A + 1 = I0 := hI0.symm
  have eJ0 : B - 1 = J0 := hJ0.symm
  have HI0 := Aside0.mk hI0
  have HJ0 := Aside0.mk hJ0
  have b1 : A < I0 := by omega
  have b2 : I0 ≤ J0 + 1 := by omega
  have b3 : J0 < (N : Int) := by omega
  clear hI0 hJ0
  gi_wp2
  gi_loopw [12] (fun i wx => ∃ I : Int, (I0 ≤ I ∧ I ≤ J0 + 1) ∧ i = .int .i64 I ∧ Aside0 (scanUp (fun x => ltF F x d1[A.toNat]!) d1 J0.toNat I.toNat = scanUp (fun x => ltF F x d1[A.toNat]!) d1 J0.toNat I0.toNat) ∧ Aside0 (RowN g cap base N d1 wx) ∧ Aside0 (Below base w wx)) (fun i _ => (J0 + 1 - intOf i).toNat)
  case atStart => exact ⟨I0, ⟨by omega, by omega⟩, rfl, ⟨rfl⟩, HR1, HB1⟩
  case round =>
    obtain ⟨I, ⟨Ila, Iua⟩, rfl, HSCa, HRa, HBa⟩ := hrel
    gi_upto_region 3 with (fail)
    gi_cut [47] from 999 (fun s wx => ∃ c : Bool, s = .bool c ∧ Aside0 (c = (decide (I ≤ J0) && ltF F d1[I.toNat]! d1[A.toNat]!)) ∧ Aside0 (RowN g cap base N d1 wx) ∧ Aside0 (Below base w wx))
    case first =>
      by_cases hle : I ≤ J0
      · have hgd := decide_eq_true hle
        have l0a : 0 ≤ I := by omega
        have l1a : I < (N : Int) := by omega
        have l2a : 0 ≤ A := by omega
        have l3a : A < (N : Int) := by omega
        obtain ⟨xa, hxa⟩ : ∃ x, x = d1[I.toNat]! := ⟨_, rfl⟩
        obtain ⟨ya, hya⟩ : ∃ x, x = d1[A.toNat]! := ⟨_, rfl⟩
        have qa := cell_regrown (rowN_at HRa.out I (by omega) (by omega)).1
        have ra := cell_regrown (rowN_at HRa.out A (by omega) (by omega)).1
        have cFa := cmpAt HO.out HBa.out hbs (inR_at HI1.out HS1.out I (by omega) (by omega)) (inR_at HI1.out HS1.out A (by omega) (by omega))
        rw [← hxa] at qa cFa
        rw [← hya] at ra cFa
        have HXa := Aside0.mk hxa
        have HYa := Aside0.mk hya
        clear hxa hya
        gi_wp2
        refine region_quiet_below (by kernel_rfl) (by kernel_rfl) (by kernel_rfl) ?_
        repeat (refine wpQuietIn_step (fun _ _ _ _ => trivial) (fun K hK => ?_); go_simp; first | (refine hK _ ?_; clear hK K) | (apply Exists.intro; refine ⟨fun _ => ?_, hK _ ?_⟩; (exact ⟨rfl, cFa _ _⟩); clear hK K))
        refine wpQuietIn_nil ?_
        intro _ hw'
        obtain ⟨⟨dq, osq⟩, hw''⟩ := hw'
        subst hw''
        have HRac := Aside0.mk (rowN_below HRa.out (below_regrown wr dq osq))
        have HBac := Aside0.mk (HBa.out.trans ((below_regrown wr dq osq).mono (Nat.le_trans hbs HBa.out.size)))
        clear qa ra cFa
        generalize grow (redrawn wr dq) osq = W2 at HRac HBac ⊢
        gi_wp2
        gi_meet
        case rel => exact ⟨_, rfl, ⟨by rw [decide_eq_true (show I ≤ J0 by omega), Bool.true_and, ← HXa.out, ← HYa.out]; first | rfl | simp [ltF]⟩, HRac, HBac⟩
      · have hgd : decide (I ≤ J0) = false := decide_eq_false hle
        gi_wp2
        refine region_quiet_below (by kernel_rfl) (by kernel_rfl) (by kernel_rfl) ?_
        repeat (refine wpQuietIn_step (fun _ _ _ _ => trivial) (fun K hK => ?_); go_simp; first | (refine hK _ ?_; clear hK K))
        refine wpQuietIn_nil ?_
        intro _ hw'
        obtain ⟨⟨dq, osq⟩, hw''⟩ := hw'
        subst hw''
        have HRac := Aside0.mk (rowN_below HRa.out (below_regrown wr dq osq))
        have HBac := Aside0.mk (HBa.out.trans ((below_regrown wr dq osq).mono (Nat.le_trans hbs HBa.out.size)))
        generalize grow (redrawn wr dq) osq = W2 at HRac HBac ⊢
        gi_wp2
        gi_meet
        case rel => exact ⟨_, rfl, ⟨by rw [decide_eq_false (show ¬ (I ≤ J0) by omega), Bool.false_and]⟩, HRac, HBac⟩
    case rest =>
      clear HRa HBa
      obtain ⟨c, rfl, HCa, HRa, HBa⟩ := hcut
      cases c with
      | true =>
        have hca : I ≤ J0 := by
          have h := HCa.out
          rw [eq_comm, Bool.and_eq_true, decide_eq_true_eq] at h
          exact h.1
        gi_wp2
        go_roundw
        case rel => exact ⟨I + 1, ⟨by omega, by omega⟩, rfl, ⟨(scanUp_yes (fun x => ltF F x d1[A.toNat]!) d1 J0 I (by omega) HCa.out.symm).symm.trans HSCa.out⟩, HRa, HBa⟩
        case measure => simp [intOf]; omega
      | false =>
        have HEa := Aside0.mk ((scanUp_no (fun x => ltF F x d1[A.toNat]!) d1 J0 I (by omega) (by omega) HCa.out.symm).symm.trans HSCa.out)
        clear HSCa
        gi_wp2
        gi_loopw [13] (fun i wx => ∃ J : Int, (I - 1 ≤ J ∧ J ≤ J0) ∧ i = .int .i64 J ∧ Aside0 (scanDown (fun x => !ltF F x d1[A.toNat]!) d1 I.toNat J.toNat = scanDown (fun x => !ltF F x d1[A.toNat]!) d1 I.toNat J0.toNat) ∧ Aside0 (RowN g cap base N d1 wx) ∧ Aside0 (Below base w wx)) (fun i _ => (intOf i).toNat)
        case atStart => exact ⟨J0, ⟨by omega, by omega⟩, rfl, ⟨rfl⟩, HRa, HBa⟩
        case round =>
          obtain ⟨J, ⟨Jlb, Jub⟩, rfl, HSCb, HRb, HBb⟩ := hrel
          gi_upto_region 5 with (fail)
          gi_cut [66] from 999 (fun s wx => ∃ c : Bool, s = .bool c ∧ Aside0 (c = (decide (I ≤ J) && !ltF F d1[J.toNat]! d1[A.toNat]!)) ∧ Aside0 (RowN g cap base N d1 wx) ∧ Aside0 (Below base w wx))
          case first =>
            by_cases hle : I ≤ J
            · have hgd := decide_eq_true hle
              have l0b : 0 ≤ J := by omega
              have l1b : J < (N : Int) := by omega
              have l2b : 0 ≤ A := by omega
              have l3b : A < (N : Int) := by omega
              obtain ⟨xb, hxb⟩ : ∃ x, x = d1[J.toNat]! := ⟨_, rfl⟩
              obtain ⟨yb, hyb⟩ : ∃ x, x = d1[A.toNat]! := ⟨_, rfl⟩
              have qb := cell_regrown (rowN_at HRb.out J (by omega) (by omega)).1
              have rb := cell_regrown (rowN_at HRb.out A (by omega) (by omega)).1
              have cFb := cmpAt HO.out HBb.out hbs (inR_at HI1.out HS1.out J (by omega) (by omega)) (inR_at HI1.out HS1.out A (by omega) (by omega))
              rw [← hxb] at qb cFb
              rw [← hyb] at rb cFb
              have HXb := Aside0.mk hxb
              have HYb := Aside0.mk hyb
              clear hxb hyb
              gi_wp2
              refine region_quiet_below (by kernel_rfl) (by kernel_rfl) (by kernel_rfl) ?_
              repeat (refine wpQuietIn_step (fun _ _ _ _ => trivial) (fun K hK => ?_); go_simp; first | (refine hK _ ?_; clear hK K) | (apply Exists.intro; refine ⟨fun _ => ?_, hK _ ?_⟩; (exact ⟨rfl, cFb _ _⟩); clear hK K))
              refine wpQuietIn_nil ?_
              intro _ hw'
              obtain ⟨⟨dq, osq⟩, hw''⟩ := hw'
              subst hw''
              have HRbc := Aside0.mk (rowN_below HRb.out (below_regrown wr dq osq))
              have HBbc := Aside0.mk (HBb.out.trans ((below_regrown wr dq osq).mono (Nat.le_trans hbs HBb.out.size)))
              clear qb rb cFb
              generalize grow (redrawn wr dq) osq = W2 at HRbc HBbc ⊢
              gi_wp2
              gi_meet
              case rel => exact ⟨_, rfl, ⟨by rw [decide_eq_true (show I ≤ J by omega), Bool.true_and, ← HXb.out, ← HYb.out]; first | rfl | simp [ltF]⟩, HRbc, HBbc⟩
            · have hgd : decide (I ≤ J) = false := decide_eq_false hle
              gi_wp2
              refine region_quiet_below (by kernel_rfl) (by kernel_rfl) (by kernel_rfl) ?_
              repeat (refine wpQuietIn_step (fun _ _ _ _ => trivial) (fun K hK => ?_); go_simp; first | (refine hK _ ?_; clear hK K))
              refine wpQuietIn_nil ?_
              intro _ hw'
              obtain ⟨⟨dq, osq⟩, hw''⟩ := hw'
              subst hw''
              have HRbc := Aside0.mk (rowN_below HRb.out (below_regrown wr dq osq))
              have HBbc := Aside0.mk (HBb.out.trans ((below_regrown wr dq osq).mono (Nat.le_trans hbs HBb.out.size)))
              generalize grow (redrawn wr dq) osq = W2 at HRbc HBbc ⊢
              gi_wp2
              gi_meet
              case rel => exact ⟨_, rfl, ⟨by rw [decide_eq_false (show ¬ (I ≤ J) by omega), Bool.false_and]⟩, HRbc, HBbc⟩
          case rest =>
            clear HRb HBb
            obtain ⟨c, rfl, HCb, HRb, HBb⟩ := hcut
            cases c with
            | true =>
              have hcb : I ≤ J := by
                have h := HCb.out
                rw [eq_comm, Bool.and_eq_true, decide_eq_true_eq] at h
                exact h.1
              gi_wp2
              go_roundw
              case rel => exact ⟨J - 1, ⟨by omega, by omega⟩, rfl, ⟨(scanDown_yes (fun x => !ltF F x d1[A.toNat]!) d1 I J (by omega) HCb.out.symm).symm.trans HSCb.out⟩, HRb, HBb⟩
              case measure => simp [intOf]; omega
            | false =>
              have HEb := Aside0.mk ((scanDown_no (fun x => !ltF F x d1[A.toNat]!) d1 I J (by omega) HCb.out.symm).symm.trans HSCb.out)
              clear HSCb
              have HPF := Aside0.mk (partition_two F d A B P d1 I0 J0 I J h0 (by omega) (by omega) (by omega) Hd1.out HI0.out HJ0.out HEa.out HEb.out)
              by_cases hgt : J < I
              · have l0s : 0 ≤ J := by omega
                have l1s : J < (N : Int) := by omega
                have l2s : 0 ≤ A := by omega
                have l3s : A < (N : Int) := by omega
                obtain ⟨d2, hd2⟩ : ∃ q, q = swp d1 J.toNat A.toNat := ⟨_, rfl⟩
                obtain ⟨is, his⟩ : ∃ q, q = J.toNat := ⟨_, rfl⟩
                obtain ⟨js, hjs⟩ : ∃ q, q = A.toNat := ⟨_, rfl⟩
                obtain ⟨xs, hxs⟩ : ∃ x, x = d1[J.toNat]! := ⟨_, rfl⟩
                obtain ⟨ys, hys⟩ : ∃ x, x = d1[A.toNat]! := ⟨_, rfl⟩
                have SWs := rowN_swap HRb.out J.toNat A.toNat
                obtain ⟨qs, fs⟩ := rowN_at HRb.out J (by omega) (by omega)
                obtain ⟨rs, gs⟩ := rowN_at HRb.out A (by omega) (by omega)
                obtain ⟨us, ss⟩ := rowN_second HRb.out J A (by omega) (by omega) (.int .i64 ys)
                rw [← hd2, ← hxs, ← hys, ← his, ← hjs] at SWs
                rw [← hxs, ← his] at qs
                rw [← hys, ← hjs] at rs
                rw [← his] at fs
                rw [← hjs] at gs
                rw [← his, ← hjs] at ss
                have eis : J.toNat = is := his.symm
                have ejs : A.toNat = js := hjs.symm
                have HSWs := Aside0.mk SWs
                have Hd2 := Aside0.mk hd2
                clear SWs his hjs hxs hys hd2
                gi_wp2
                gi_region
                have HR3 := Aside0.mk (show RowN g cap base N d2 (((wc.setCell ⟨g, is, none⟩ (.int .i64 ys)).setCell ⟨g, js, none⟩ (.int .i64 xs)).drew) from HSWs.out)
                have HB3 := Aside0.mk (below_drew ((HBb.out.setCell (p := ⟨g, is, none⟩) hbg (.int .i64 ys)).setCell (p := ⟨g, js, none⟩) hbg (.int .i64 xs)))
                clear qs fs rs gs ss eis ejs HSWs
                generalize ((wc.setCell ⟨g, is, none⟩ (.int .i64 ys)).setCell ⟨g, js, none⟩ (.int .i64 xs)).drew = W3 at HR3 HB3 ⊢
                gi_wp2
                go_ret2
                have hp := HPF.out.1 hgt
                rw [hp]
                exact ⟨by (first | (rw [Int.toNat_of_nonneg (by omega)]; done) | (rw [Int.toNat_of_nonneg (by omega)]; rfl)), by show RowN g cap base N (swp d1 J.toNat A.toNat) _; rw [← Hd2.out]; exact HR3.out, HB3.out⟩
              · have hne : I ≠ J := by
                  rintro rfl
                  rcases apart_of HCa.out HCb.out with h | h
                  · simp only [decide_eq_false_iff_not] at h; omega
                  · simp only [decide_eq_false_iff_not] at h; omega
                have hlt : I < J := by omega
                have HP2 := Aside0.mk (HPF.out.2 hlt)
                have l0t : 0 ≤ I := by omega
                have l1t : I < (N : Int) := by omega
                have l2t : 0 ≤ J := by omega
                have l3t : J < (N : Int) := by omega
                obtain ⟨d2, hd2⟩ : ∃ q, q = swp d1 I.toNat J.toNat := ⟨_, rfl⟩
                obtain ⟨it, hit⟩ : ∃ q, q = I.toNat := ⟨_, rfl⟩
                obtain ⟨jt, hjt⟩ : ∃ q, q = J.toNat := ⟨_, rfl⟩
                obtain ⟨xt, hxt⟩ : ∃ x, x = d1[I.toNat]! := ⟨_, rfl⟩
                obtain ⟨yt, hyt⟩ : ∃ x, x = d1[J.toNat]! := ⟨_, rfl⟩
                have SWt := rowN_swap HRb.out I.toNat J.toNat
                obtain ⟨qt, ft⟩ := rowN_at HRb.out I (by omega) (by omega)
                obtain ⟨rt, gt⟩ := rowN_at HRb.out J (by omega) (by omega)
                obtain ⟨ut, st⟩ := rowN_second HRb.out I J (by omega) (by omega) (.int .i64 yt)
                rw [← hd2, ← hxt, ← hyt, ← hit, ← hjt] at SWt
                rw [← hxt, ← hit] at qt
                rw [← hyt, ← hjt] at rt
                rw [← hit] at ft
                rw [← hjt] at gt
                rw [← hit, ← hjt] at st
                have eit : I.toNat = it := hit.symm
                have ejt : J.toNat = jt := hjt.symm
                have HSWt := Aside0.mk SWt
                have Hd2 := Aside0.mk hd2
                clear SWt hit hjt hxt hyt hd2
                gi_wp2
                gi_region
                have HR2 := Aside0.mk (show RowN g cap base N d2 (((wc.setCell ⟨g, it, none⟩ (.int .i64 yt)).setCell ⟨g, jt, none⟩ (.int .i64 xt)).drew) from HSWt.out)
                have HB2 := Aside0.mk (below_drew ((HBb.out.setCell (p := ⟨g, it, none⟩) hbg (.int .i64 yt)).setCell (p := ⟨g, jt, none⟩) hbg (.int .i64 xt)))
                clear qt ft rt gt st eit ejt HSWt
                generalize ((wc.setCell ⟨g, it, none⟩ (.int .i64 yt)).setCell ⟨g, jt, none⟩ (.int .i64 xt)).drew = W3 at HR2 HB2 ⊢
                have HI2 := Aside0.mk (show InR n d2 by rw [Hd2.out]; exact inR_swp HI1.out _ _ (by have := HS1.out; omega) (by have := HS1.out; omega))
                rw [← Hd2.out] at HP2
                gi_wp2
                gi_loopw [12, 13] (fun i j wx => ∃ (I3 J3 : Int) (d3 : Array Int), (A < I3 ∧ I3 ≤ J3 + 1 ∧ J3 ≤ J0) ∧ i = .int .i64 I3 ∧ j = .int .i64 J3 ∧ Aside0 (partLoop (ltF F) A.toNat I3.toNat J3.toNat d3 = partLoop (ltF F) A.toNat (I + 1).toNat (J - 1).toNat d2) ∧ Aside0 (InR n d3) ∧ Aside0 (RowN g cap base N d3 wx) ∧ Aside0 (Below base w wx)) (fun i j _ => (intOf j + 1 - intOf i).toNat)
                case atStart => exact ⟨I + 1, J - 1, d2, ⟨by omega, by omega, by omega⟩, rfl, rfl, ⟨rfl⟩, HI2, HR2, HB2⟩
                case round =>
                  obtain ⟨I3, J3, d3, ⟨hI3a, hI3b, hI3c⟩, rfl, rfl, HT3, HI3, HR3, HB3⟩ := hrel
                  have HS3 := Aside0.mk HR3.out.1
                  gi_wp2
                  gi_loopw [12] (fun i wx => ∃ I5 : Int, (I3 ≤ I5 ∧ I5 ≤ J3 + 1) ∧ i = .int .i64 I5 ∧ Aside0 (scanUp (fun x => ltF F x d3[A.toNat]!) d3 J3.toNat I5.toNat = scanUp (fun x => ltF F x d3[A.toNat]!) d3 J3.toNat I3.toNat) ∧ Aside0 (RowN g cap base N d3 wx) ∧ Aside0 (Below base w wx)) (fun i _ => (J3 + 1 - intOf i).toNat)
                  case atStart => exact ⟨I3, ⟨by omega, by omega⟩, rfl, ⟨rfl⟩, HR3, HB3⟩
                  case round =>
                    obtain ⟨I5, ⟨I5lc, I5uc⟩, rfl, HSCc, HRc, HBc⟩ := hrel
                    gi_upto_region 13 with (fail)
                    gi_cut [120] from 999 (fun s wx => ∃ c : Bool, s = .bool c ∧ Aside0 (c = (decide (I5 ≤ J3) && ltF F d3[I5.toNat]! d3[A.toNat]!)) ∧ Aside0 (RowN g cap base N d3 wx) ∧ Aside0 (Below base w wx))
                    case first =>
                      by_cases hle : I5 ≤ J3
                      · have hgd := decide_eq_true hle
                        have l0c : 0 ≤ I5 := by omega
                        have l1c : I5 < (N : Int) := by omega
                        have l2c : 0 ≤ A := by omega
                        have l3c : A < (N : Int) := by omega
                        obtain ⟨xc, hxc⟩ : ∃ x, x = d3[I5.toNat]! := ⟨_, rfl⟩
                        obtain ⟨yc, hyc⟩ : ∃ x, x = d3[A.toNat]! := ⟨_, rfl⟩
                        have qc := cell_regrown (rowN_at HRc.out I5 (by omega) (by omega)).1
                        have rc := cell_regrown (rowN_at HRc.out A (by omega) (by omega)).1
                        have cFc := cmpAt HO.out HBc.out hbs (inR_at HI3.out HS3.out I5 (by omega) (by omega)) (inR_at HI3.out HS3.out A (by omega) (by omega))
                        rw [← hxc] at qc cFc
                        rw [← hyc] at rc cFc
                        have HXc := Aside0.mk hxc
                        have HYc := Aside0.mk hyc
                        clear hxc hyc
                        gi_wp2
                        refine region_quiet_below (by kernel_rfl) (by kernel_rfl) (by kernel_rfl) ?_
                        repeat (refine wpQuietIn_step (fun _ _ _ _ => trivial) (fun K hK => ?_); go_simp; first | (refine hK _ ?_; clear hK K) | (apply Exists.intro; refine ⟨fun _ => ?_, hK _ ?_⟩; (exact ⟨rfl, cFc _ _⟩); clear hK K))
                        refine wpQuietIn_nil ?_
                        intro _ hw'
                        obtain ⟨⟨dq, osq⟩, hw''⟩ := hw'
                        subst hw''
                        have HRcc := Aside0.mk (rowN_below HRc.out (below_regrown wr dq osq))
                        have HBcc := Aside0.mk (HBc.out.trans ((below_regrown wr dq osq).mono (Nat.le_trans hbs HBc.out.size)))
                        clear qc rc cFc
                        generalize grow (redrawn wr dq) osq = W2 at HRcc HBcc ⊢
                        gi_wp2
                        gi_meet
                        case rel => exact ⟨_, rfl, ⟨by rw [decide_eq_true (show I5 ≤ J3 by omega), Bool.true_and, ← HXc.out, ← HYc.out]; first | rfl | simp [ltF]⟩, HRcc, HBcc⟩
                      · have hgd : decide (I5 ≤ J3) = false := decide_eq_false hle
                        gi_wp2
                        refine region_quiet_below (by kernel_rfl) (by kernel_rfl) (by kernel_rfl) ?_
                        repeat (refine wpQuietIn_step (fun _ _ _ _ => trivial) (fun K hK => ?_); go_simp; first | (refine hK _ ?_; clear hK K))
                        refine wpQuietIn_nil ?_
                        intro _ hw'
                        obtain ⟨⟨dq, osq⟩, hw''⟩ := hw'
                        subst hw''
                        have HRcc := Aside0.mk (rowN_below HRc.out (below_regrown wr dq osq))
                        have HBcc := Aside0.mk (HBc.out.trans ((below_regrown wr dq osq).mono (Nat.le_trans hbs HBc.out.size)))
                        generalize grow (redrawn wr dq) osq = W2 at HRcc HBcc ⊢
                        gi_wp2
                        gi_meet
                        case rel => exact ⟨_, rfl, ⟨by rw [decide_eq_false (show ¬ (I5 ≤ J3) by omega), Bool.false_and]⟩, HRcc, HBcc⟩
                    case rest =>
                      clear HRc HBc
                      obtain ⟨c, rfl, HCc, HRc, HBc⟩ := hcut
                      cases c with
                      | true =>
                        have hcc : I5 ≤ J3 := by
                          have h := HCc.out
                          rw [eq_comm, Bool.and_eq_true, decide_eq_true_eq] at h
                          exact h.1
                        gi_wp2
                        go_roundw
                        case rel => exact ⟨I5 + 1, ⟨by omega, by omega⟩, rfl, ⟨(scanUp_yes (fun x => ltF F x d3[A.toNat]!) d3 J3 I5 (by omega) HCc.out.symm).symm.trans HSCc.out⟩, HRc, HBc⟩
                        case measure => simp [intOf]; omega
                      | false =>
                        have HEc := Aside0.mk ((scanUp_no (fun x => ltF F x d3[A.toNat]!) d3 J3 I5 (by omega) (by omega) HCc.out.symm).symm.trans HSCc.out)
                        clear HSCc
                        gi_wp2
                        gi_loopw [13] (fun i wx => ∃ J5 : Int, (I5 - 1 ≤ J5 ∧ J5 ≤ J3) ∧ i = .int .i64 J5 ∧ Aside0 (scanDown (fun x => !ltF F x d3[A.toNat]!) d3 I5.toNat J5.toNat = scanDown (fun x => !ltF F x d3[A.toNat]!) d3 I5.toNat J3.toNat) ∧ Aside0 (RowN g cap base N d3 wx) ∧ Aside0 (Below base w wx)) (fun i _ => (intOf i).toNat)
                        case atStart => exact ⟨J3, ⟨by omega, by omega⟩, rfl, ⟨rfl⟩, HRc, HBc⟩
                        case round =>
                          obtain ⟨J5, ⟨J5ld, J5ud⟩, rfl, HSCd, HRd, HBd⟩ := hrel
                          gi_upto_region 15 with (fail)
                          gi_cut [139] from 999 (fun s wx => ∃ c : Bool, s = .bool c ∧ Aside0 (c = (decide (I5 ≤ J5) && !ltF F d3[J5.toNat]! d3[A.toNat]!)) ∧ Aside0 (RowN g cap base N d3 wx) ∧ Aside0 (Below base w wx))
                          case first =>
                            by_cases hle : I5 ≤ J5
                            · have hgd := decide_eq_true hle
                              have l0d : 0 ≤ J5 := by omega
                              have l1d : J5 < (N : Int) := by omega
                              have l2d : 0 ≤ A := by omega
                              have l3d : A < (N : Int) := by omega
                              obtain ⟨xd, hxd⟩ : ∃ x, x = d3[J5.toNat]! := ⟨_, rfl⟩
                              obtain ⟨yd, hyd⟩ : ∃ x, x = d3[A.toNat]! := ⟨_, rfl⟩
                              have qd := cell_regrown (rowN_at HRd.out J5 (by omega) (by omega)).1
                              have rd := cell_regrown (rowN_at HRd.out A (by omega) (by omega)).1
                              have cFd := cmpAt HO.out HBd.out hbs (inR_at HI3.out HS3.out J5 (by omega) (by omega)) (inR_at HI3.out HS3.out A (by omega) (by omega))
                              rw [← hxd] at qd cFd
                              rw [← hyd] at rd cFd
                              have HXd := Aside0.mk hxd
                              have HYd := Aside0.mk hyd
                              clear hxd hyd
                              gi_wp2
                              refine region_quiet_below (by kernel_rfl) (by kernel_rfl) (by kernel_rfl) ?_
                              repeat (refine wpQuietIn_step (fun _ _ _ _ => trivial) (fun K hK => ?_); go_simp; first | (refine hK _ ?_; clear hK K) | (apply Exists.intro; refine ⟨fun _ => ?_, hK _ ?_⟩; (exact ⟨rfl, cFd _ _⟩); clear hK K))
                              refine wpQuietIn_nil ?_
                              intro _ hw'
                              obtain ⟨⟨dq, osq⟩, hw''⟩ := hw'
                              subst hw''
                              have HRdc := Aside0.mk (rowN_below HRd.out (below_regrown wr dq osq))
                              have HBdc := Aside0.mk (HBd.out.trans ((below_regrown wr dq osq).mono (Nat.le_trans hbs HBd.out.size)))
                              clear qd rd cFd
                              generalize grow (redrawn wr dq) osq = W2 at HRdc HBdc ⊢
                              gi_wp2
                              gi_meet
                              case rel => exact ⟨_, rfl, ⟨by rw [decide_eq_true (show I5 ≤ J5 by omega), Bool.true_and, ← HXd.out, ← HYd.out]; first | rfl | simp [ltF]⟩, HRdc, HBdc⟩
                            · have hgd : decide (I5 ≤ J5) = false := decide_eq_false hle
                              gi_wp2
                              refine region_quiet_below (by kernel_rfl) (by kernel_rfl) (by kernel_rfl) ?_
                              repeat (refine wpQuietIn_step (fun _ _ _ _ => trivial) (fun K hK => ?_); go_simp; first | (refine hK _ ?_; clear hK K))
                              refine wpQuietIn_nil ?_
                              intro _ hw'
                              obtain ⟨⟨dq, osq⟩, hw''⟩ := hw'
                              subst hw''
                              have HRdc := Aside0.mk (rowN_below HRd.out (below_regrown wr dq osq))
                              have HBdc := Aside0.mk (HBd.out.trans ((below_regrown wr dq osq).mono (Nat.le_trans hbs HBd.out.size)))
                              generalize grow (redrawn wr dq) osq = W2 at HRdc HBdc ⊢
                              gi_wp2
                              gi_meet
                              case rel => exact ⟨_, rfl, ⟨by rw [decide_eq_false (show ¬ (I5 ≤ J5) by omega), Bool.false_and]⟩, HRdc, HBdc⟩
                          case rest =>
                            clear HRd HBd
                            obtain ⟨c, rfl, HCd, HRd, HBd⟩ := hcut
                            cases c with
                            | true =>
                              have hcd : I5 ≤ J5 := by
                                have h := HCd.out
                                rw [eq_comm, Bool.and_eq_true, decide_eq_true_eq] at h
                                exact h.1
                              gi_wp2
                              go_roundw
                              case rel => exact ⟨J5 - 1, ⟨by omega, by omega⟩, rfl, ⟨(scanDown_yes (fun x => !ltF F x d3[A.toNat]!) d3 I5 J5 (by omega) HCd.out.symm).symm.trans HSCd.out⟩, HRd, HBd⟩
                              case measure => simp [intOf]; omega
                            | false =>
                              have HEd := Aside0.mk ((scanDown_no (fun x => !ltF F x d3[A.toNat]!) d3 I5 J5 (by omega) HCd.out.symm).symm.trans HSCd.out)
                              clear HSCd
                              have HPL := Aside0.mk (partLoop_two F A I3 J3 I5 J5 d3 h0 (by omega) (by omega) HEc.out HEd.out)
                              by_cases hgt5 : J5 < I5
                              · have l0y : 0 ≤ J5 := by omega
                                have l1y : J5 < (N : Int) := by omega
                                have l2y : 0 ≤ A := by omega
                                have l3y : A < (N : Int) := by omega
                                obtain ⟨d5, hd5⟩ : ∃ q, q = swp d3 J5.toNat A.toNat := ⟨_, rfl⟩
                                obtain ⟨iy, hiy⟩ : ∃ q, q = J5.toNat := ⟨_, rfl⟩
                                obtain ⟨jy, hjy⟩ : ∃ q, q = A.toNat := ⟨_, rfl⟩
                                obtain ⟨xy, hxy⟩ : ∃ x, x = d3[J5.toNat]! := ⟨_, rfl⟩
                                obtain ⟨yy, hyy⟩ : ∃ x, x = d3[A.toNat]! := ⟨_, rfl⟩
                                have SWy := rowN_swap HRd.out J5.toNat A.toNat
                                obtain ⟨qy, fy⟩ := rowN_at HRd.out J5 (by omega) (by omega)
                                obtain ⟨ry, gy⟩ := rowN_at HRd.out A (by omega) (by omega)
                                obtain ⟨uy, sy⟩ := rowN_second HRd.out J5 A (by omega) (by omega) (.int .i64 yy)
                                rw [← hd5, ← hxy, ← hyy, ← hiy, ← hjy] at SWy
                                rw [← hxy, ← hiy] at qy
                                rw [← hyy, ← hjy] at ry
                                rw [← hiy] at fy
                                rw [← hjy] at gy
                                rw [← hiy, ← hjy] at sy
                                have eiy : J5.toNat = iy := hiy.symm
                                have ejy : A.toNat = jy := hjy.symm
                                have HSWy := Aside0.mk SWy
                                have Hd5 := Aside0.mk hd5
                                clear SWy hiy hjy hxy hyy hd5
                                gi_wp2
                                gi_region
                                have HR5 := Aside0.mk (show RowN g cap base N d5 (((wc.setCell ⟨g, iy, none⟩ (.int .i64 yy)).setCell ⟨g, jy, none⟩ (.int .i64 xy)).drew) from HSWy.out)
                                have HB5 := Aside0.mk (below_drew ((HBd.out.setCell (p := ⟨g, iy, none⟩) hbg (.int .i64 yy)).setCell (p := ⟨g, jy, none⟩) hbg (.int .i64 xy)))
                                clear qy fy ry gy sy eiy ejy HSWy
                                generalize ((wc.setCell ⟨g, iy, none⟩ (.int .i64 yy)).setCell ⟨g, jy, none⟩ (.int .i64 xy)).drew = W5 at HR5 HB5 ⊢
                                gi_wp2
                                go_ret2
                                have hp := HP2.out
                                rw [← HT3.out, HPL.out.1 hgt5] at hp
                                rw [hp]
                                exact ⟨by (first | (rw [Int.toNat_of_nonneg (by omega)]; done) | (rw [Int.toNat_of_nonneg (by omega)]; rfl)), by show RowN g cap base N (swp d3 J5.toNat A.toNat) _; rw [← Hd5.out]; exact HR5.out, HB5.out⟩
                              · have hne5 : I5 ≠ J5 := by
                                  rintro rfl
                                  rcases apart_of HCc.out HCd.out with h | h
                                  · simp only [decide_eq_false_iff_not] at h; omega
                                  · simp only [decide_eq_false_iff_not] at h; omega
                                have hlt5 : I5 < J5 := by omega
                                have l0z : 0 ≤ I5 := by omega
                                have l1z : I5 < (N : Int) := by omega
                                have l2z : 0 ≤ J5 := by omega
                                have l3z : J5 < (N : Int) := by omega
                                obtain ⟨d4, hd4⟩ : ∃ q, q = swp d3 I5.toNat J5.toNat := ⟨_, rfl⟩
                                obtain ⟨iz, hiz⟩ : ∃ q, q = I5.toNat := ⟨_, rfl⟩
                                obtain ⟨jz, hjz⟩ : ∃ q, q = J5.toNat := ⟨_, rfl⟩
                                obtain ⟨xz, hxz⟩ : ∃ x, x = d3[I5.toNat]! := ⟨_, rfl⟩
                                obtain ⟨yz, hyz⟩ : ∃ x, x = d3[J5.toNat]! := ⟨_, rfl⟩
                                have SWz := rowN_swap HRd.out I5.toNat J5.toNat
                                obtain ⟨qz, fz⟩ := rowN_at HRd.out I5 (by omega) (by omega)
                                obtain ⟨rz, gz⟩ := rowN_at HRd.out J5 (by omega) (by omega)
                                obtain ⟨uz, sz⟩ := rowN_second HRd.out I5 J5 (by omega) (by omega) (.int .i64 yz)
                                rw [← hd4, ← hxz, ← hyz, ← hiz, ← hjz] at SWz
                                rw [← hxz, ← hiz] at qz
                                rw [← hyz, ← hjz] at rz
                                rw [← hiz] at fz
                                rw [← hjz] at gz
                                rw [← hiz, ← hjz] at sz
                                have eiz : I5.toNat = iz := hiz.symm
                                have ejz : J5.toNat = jz := hjz.symm
                                have HSWz := Aside0.mk SWz
                                have Hd4 := Aside0.mk hd4
                                clear SWz hiz hjz hxz hyz hd4
                                gi_wp2
                                gi_region
                                have HR4 := Aside0.mk (show RowN g cap base N d4 (((wc.setCell ⟨g, iz, none⟩ (.int .i64 yz)).setCell ⟨g, jz, none⟩ (.int .i64 xz)).drew) from HSWz.out)
                                have HB4 := Aside0.mk (below_drew ((HBd.out.setCell (p := ⟨g, iz, none⟩) hbg (.int .i64 yz)).setCell (p := ⟨g, jz, none⟩) hbg (.int .i64 xz)))
                                clear qz fz rz gz sz eiz ejz HSWz
                                generalize ((wc.setCell ⟨g, iz, none⟩ (.int .i64 yz)).setCell ⟨g, jz, none⟩ (.int .i64 xz)).drew = W5 at HR4 HB4 ⊢
                                have HI4 := Aside0.mk (show InR n d4 by rw [Hd4.out]; exact inR_swp HI3.out _ _ (by have := HS3.out; omega) (by have := HS3.out; omega))
                                gi_wp2
                                go_roundw
                                case rel => exact ⟨I5 + 1, J5 - 1, d4, ⟨by omega, by omega, by omega⟩, rfl, rfl, ⟨by rw [Hd4.out, ← HPL.out.2 hlt5]; exact HT3.out⟩, HI4, HR4, HB4⟩
                                case measure => simp [intOf]; omega
open Go.Sort (grow swp scanUp scanDown partLoop partition siftDown heapBuild heapPop heapSort)
theorem inR_perm {n : Nat} {d d' : Array Int} (h : InR n d) (a b : Nat) (hb : b ≤ d.size) (hp : Go.Sort.PermIn a b d d') : InR n d' := by
  intro k hk
  have hs := hp.1
  by_cases hk2 : a ≤ k ∧ k < b
  · exact Go.Sort.permIn_all d d' a b (fun x => 0 ≤ x ∧ x < (n : Int)) hb hp (fun i hi1 hi2 => h i (by omega)) k hk2.1 hk2.2
  · rw [hp.2.1 k (by omega)]; exact h k (by omega)
theorem wrap_of {x y : Int} (h : x = y) (h0 : -4611686018427387904 ≤ x) (h1 : x ≤ 4611686018427387904) : IntKind.i64.wrap x = y := by rw [← h]; exact wrap_i64' h0 h1
theorem siftDown_stop (F : Int → Int → Int) (FI HI R : Int) (d : Array Int) (h0 : 0 ≤ R) (h1 : 0 ≤ HI) (h : HI ≤ 2 * R + 1) : siftDown (ltF F) HI.toNat FI.toNat R.toNat d = d := by
  rw [siftDown, dif_pos (by omega)]
theorem siftDown_two (F : Int → Int → Int) (FI HI R C : Int) (d : Array Int) (c : Bool) (hf : 0 ≤ FI) (h0 : 0 ≤ R) (h : 2 * R + 1 < HI) (hc : c = (decide (2 * R + 1 + 1 < HI) && ltF F d[(FI + (2 * R + 1)).toNat]! d[(FI + (2 * R + 1) + 1).toNat]!)) (hC : C = if c = true then 2 * R + 2 else 2 * R + 1) :
    (ltF F d[(FI + R).toNat]! d[(FI + C).toNat]! = false → siftDown (ltF F) HI.toNat FI.toNat R.toNat d = d) ∧
    (ltF F d[(FI + R).toNat]! d[(FI + C).toNat]! = true → siftDown (ltF F) HI.toNat FI.toNat R.toNat d = siftDown (ltF F) HI.toNat FI.toNat C.toNat (swp d (FI + R).toNat (FI + C).toNat)) := by
  have e1 : (FI + (2 * R + 1)).toNat = FI.toNat + (2 * R.toNat + 1) := by omega
  have e2 : (FI + (2 * R + 1) + 1).toNat = FI.toNat + (2 * R.toNat + 1) + 1 := by omega
  have e3 : (FI + R).toNat = FI.toNat + R.toNat := by omega
  have ht : decide (2 * R.toNat + 1 + 1 < HI.toNat) = decide (2 * R + 1 + 1 < HI) := by
    rw [decide_eq_decide]; omega
  rw [e1, e2, ← ht] at hc
  rw [e3]
  cases c with
  | true =>
    rw [if_pos rfl] at hC
    have e4 : (FI + C).toNat = FI.toNat + (2 * R.toNat + 2) := by omega
    have e5 : C.toNat = 2 * R.toNat + 2 := by omega
    have hlt : 2 * R.toNat + 2 < HI.toNat := by
      have := hc.symm
      rw [Bool.and_eq_true, decide_eq_true_eq] at this
      omega
    rw [e4, e5, siftDown, dif_neg (by omega), if_pos hc.symm]
    exact ⟨fun hv => by rw [hv]; rfl, fun hv => by rw [hv, if_neg (by simp), dif_pos hlt]⟩
  | false =>
    rw [if_neg (by simp)] at hC
    have e4 : (FI + C).toNat = FI.toNat + (2 * R.toNat + 1) := by omega
    have e5 : C.toNat = 2 * R.toNat + 1 := by omega
    rw [e4, e5, siftDown, dif_neg (by omega), if_neg (by rw [← hc]; simp)]
    exact ⟨fun hv => by rw [hv]; rfl, fun hv => by rw [hv, if_neg (by simp)]⟩
set_option maxHeartbeats 4000000 in
set_option maxRecDepth 100000 in
theorem siftC (recv : Value) (n : Nat) (F : Int → Int → Int) (base g cap N : Nat) (d : Array Int) (LO HI FI : Int) (w : World) (hO : OrdB 37 recv n F base w) (hR : RowN g cap base N d w) (hin : InR n d) (h0 : 0 ≤ LO) (h1 : LO ≤ (N : Int)) (h2 : 0 ≤ HI) (h3 : 0 ≤ FI) (h4 : FI + HI ≤ (N : Int)) (hN : N ≤ 4096) :
    Calls Tryz.prog 113 #[.slice (some ⟨g, 0, none⟩) N cap, .int .i64 LO, .int .i64 HI, .int .i64 FI, .func (.func 37) #[recv] #[]] w fun e w' => (∃ v, e = .returned v) ∧ InR n (siftDown (ltF F) HI.toNat FI.toNat LO.toNat d) ∧ RowN g cap base N (siftDown (ltF F) HI.toNat FI.toNat LO.toNat d) w' ∧ Below base w w' := by
  have hbg := rowN_base hR
  have hbs : base ≤ w.heap.size := Nat.le_of_lt (Nat.lt_of_le_of_lt hbg (rowN_lt hR))
  have HR := Aside0.mk hR
  have HO := Aside0.mk hO
  have HIN := Aside0.mk hin
  have HB := Aside0.mk (Below.refl base w)
  clear hO hR hin
  refine callsIn_wide (n := 0).1 ?_
  refine callsIn_of_wp Tryz.func113 rfl trivial ?_ rfl
  simp only [Tryz.ntmps113, List.size_toArray, List.length_cons, List.length_nil, Nat.reduceAdd, Nat.reduceSub, Array.replicate_succ, Array.replicate_zero, List.push_toArray, List.append_toArray, List.nil_append, List.cons_append]
  gi_wp2
  gi_loopw [10] (fun r wx => ∃ (R : Int) (d2 : Array Int), 0 ≤ R ∧ R ≤ (N : Int) ∧ r = .int .i64 R ∧ Aside0 (siftDown (ltF F) HI.toNat FI.toNat R.toNat d2 = siftDown (ltF F) HI.toNat FI.toNat LO.toNat d) ∧ Aside0 (InR n d2) ∧ Aside0 (RowN g cap base N d2 wx) ∧ Aside0 (Below base w wx)) (fun r _ => (N - (intOf r).toNat))
  case atStart => exact ⟨LO, d, h0, h1, rfl, ⟨rfl⟩, HIN, HR, HB⟩
  case round =>
    clear HR HB HIN
    obtain ⟨R, d2, hR0, hR1, rfl, HT, HI2, HR, HB⟩ := hrel
    have HS := Aside0.mk HR.out.1
    obtain ⟨C, hC⟩ : ∃ C : Int, C = 2 * R + 1 := ⟨_, rfl⟩
    have hC0 : 0 ≤ C := by omega
    have hC1 : C ≤ 10000 := by omega
    by_cases hst : HI ≤ C
    · have HD := Aside0.mk (siftDown_stop F FI HI R d2 hR0 h2 (by omega))
      have eC : 2 * R + 1 = C := hC.symm
      have HCC := Aside0.mk hC
      clear hC
      gi_wp2
      go_end0
      refine ⟨⟨_, rfl⟩, ?_, ?_, HB.out⟩
      · rw [← HT.out, HD.out]; exact HI2.out
      · rw [← HT.out, HD.out]; exact HR.out
    · have hlt : C < HI := by omega
      obtain ⟨X, hX⟩ : ∃ X : Int, X = FI + C := ⟨_, rfl⟩
      have hX0 : 0 ≤ X := by omega
      have hX1 : X < (N : Int) := by omega
      have eC : 2 * R + 1 = C := hC.symm
      have eC1 := wrap_i64' (x := C + 1) (by omega) (by omega)
      have eX : IntKind.i64.wrap (FI + C) = X := wrap_of hX.symm (by omega) (by omega)
      have eX1 := wrap_i64' (x := X + 1) (by omega) (by omega)
      have HCC := Aside0.mk hC
      have HXX := Aside0.mk hX
      clear hC hX
      gi_upto_region 3 with (fail)
      gi_cut [40] from 999 (fun s wx => ∃ c : Bool, s = .bool c ∧ Aside0 (c = (decide (C + 1 < HI) && ltF F d2[X.toNat]! d2[(X + 1).toNat]!)) ∧ Aside0 (RowN g cap base N d2 wx) ∧ Aside0 (Below base w wx))
      case first =>
        by_cases hle : C + 1 < HI
        · have hgd := decide_eq_true hle
          obtain ⟨X1, hX1'⟩ : ∃ X1 : Int, X1 = X + 1 := ⟨_, rfl⟩
          have HX1 := Aside0.mk hX1'
          have hXX : X + 1 < (N : Int) := by have := HXX.out; omega
          rw [← hX1'] at eX1 hXX
          have e8 : X + 1 = X1 := hX1'.symm
          have hX10 : 0 ≤ X1 := by omega
          clear hX1'
          have l0a : 0 ≤ X := by omega
          have l1a : X < (N : Int) := by omega
          have l2a : 0 ≤ X1 := by omega
          have l3a : X1 < (N : Int) := by omega
          obtain ⟨xa, hxa⟩ : ∃ x, x = d2[X.toNat]! := ⟨_, rfl⟩
          obtain ⟨ya, hya⟩ : ∃ x, x = d2[X1.toNat]! := ⟨_, rfl⟩
          have qa := cell_regrown (rowN_at HR.out X (by omega) (by omega)).1
          have ra := cell_regrown (rowN_at HR.out X1 (by omega) (by omega)).1
          have cFa := cmpAt HO.out HB.out hbs (inR_at HI2.out HS.out X (by omega) (by omega)) (inR_at HI2.out HS.out X1 (by omega) (by omega))
          rw [← hxa] at qa cFa
          rw [← hya] at ra cFa
          have HXa := Aside0.mk hxa
          have HYa := Aside0.mk hya
          clear hxa hya
          gi_wp2
          refine region_quiet_below (by kernel_rfl) (by kernel_rfl) (by kernel_rfl) ?_
          repeat (refine wpQuietIn_step (fun _ _ _ _ => trivial) (fun K hK => ?_); go_simp; first | (refine hK _ ?_; clear hK K) | (apply Exists.intro; refine ⟨fun _ => ?_, hK _ ?_⟩; (exact ⟨rfl, cFa _ _⟩); clear hK K))
          refine wpQuietIn_nil ?_
          intro _ hw'
          obtain ⟨⟨dq, osq⟩, hw''⟩ := hw'
          subst hw''
          have HRc := Aside0.mk (rowN_below HR.out (below_regrown wr dq osq))
          have HBc := Aside0.mk (HB.out.trans ((below_regrown wr dq osq).mono (Nat.le_trans hbs HB.out.size)))
          clear qa ra cFa
          generalize grow (redrawn wr dq) osq = W2 at HRc HBc ⊢
          gi_wp2
          gi_meet
          case rel => exact ⟨_, rfl, ⟨by rw [decide_eq_true (show C + 1 < HI by omega), Bool.true_and]; (try rw [← HX1.out]); rw [← HXa.out, ← HYa.out]; first | rfl | simp [ltF]⟩, HRc, HBc⟩
        · have hgd : decide (C + 1 < HI) = false := decide_eq_false hle
          gi_wp2
          refine region_quiet_below (by kernel_rfl) (by kernel_rfl) (by kernel_rfl) ?_
          repeat (refine wpQuietIn_step (fun _ _ _ _ => trivial) (fun K hK => ?_); go_simp; first | (refine hK _ ?_; clear hK K))
          refine wpQuietIn_nil ?_
          intro _ hw'
          obtain ⟨⟨dq, osq⟩, hw''⟩ := hw'
          subst hw''
          have HRc := Aside0.mk (rowN_below HR.out (below_regrown wr dq osq))
          have HBc := Aside0.mk (HB.out.trans ((below_regrown wr dq osq).mono (Nat.le_trans hbs HB.out.size)))
          generalize grow (redrawn wr dq) osq = W2 at HRc HBc ⊢
          gi_wp2
          gi_meet
          case rel => exact ⟨_, rfl, ⟨by rw [decide_eq_false (show ¬ (C + 1 < HI) by omega), Bool.false_and]⟩, HRc, HBc⟩
      case rest =>
        clear HR HB
        obtain ⟨c, rfl, HC, HR, HB⟩ := hcut
        gi_upto_if 40 with (fail)
        gi_cut [11] from 999 (fun s wx => ∃ C2 : Int, s = .int .i64 C2 ∧ C ≤ C2 ∧ C2 < HI ∧ Aside0 (C2 = if c = true then 2 * R + 2 else 2 * R + 1) ∧ Aside0 (RowN g cap base N d2 wx) ∧ Aside0 (Below base w wx))
        case first =>
          cases c with
          | true =>
            have h := HC.out
            rw [eq_comm, Bool.and_eq_true, decide_eq_true_eq] at h
            have hh := h.1
            clear h
            gi_wp2
            gi_meet
            case rel => exact ⟨C + 1, rfl, by omega, by omega, ⟨by have := HCC.out; first | (rw [if_pos rfl]; omega) | (rw [if_pos trivial]; omega)⟩, HR, HB⟩
          | false =>
            gi_wp2
            gi_meet
            case rel => exact ⟨C, rfl, by omega, by omega, ⟨by have := HCC.out; first | (rw [if_neg (by simp)]; omega) | (rw [if_neg (by decide)]; omega)⟩, HR, HB⟩
        case rest =>
          clear HR HB
          obtain ⟨C2, rfl, hc1, hc2, HC2, HR, HB⟩ := hcut
          obtain ⟨Y1, hY1⟩ : ∃ X : Int, X = FI + R := ⟨_, rfl⟩
          obtain ⟨Y2, hY2⟩ : ∃ X : Int, X = FI + C2 := ⟨_, rfl⟩
          have hRC : R < C2 := by have := HCC.out; omega
          have hy1 : 0 ≤ Y1 ∧ Y1 < (N : Int) := by omega
          have hy2 : 0 ≤ Y2 ∧ Y2 < (N : Int) := by omega
          have eY1 : IntKind.i64.wrap (FI + R) = Y1 := wrap_of hY1.symm (by omega) (by omega)
          have eY2 : IntKind.i64.wrap (FI + C2) = Y2 := wrap_of hY2.symm (by omega) (by omega)
          have HP := Aside0.mk (siftDown_two F FI HI R C2 d2 c h3 hR0 (by have := HCC.out; omega) (by rw [HC.out, HXX.out, HCC.out]) HC2.out)
          have HY1 := Aside0.mk hY1
          have HY2 := Aside0.mk hY2
          rw [← hY1, ← hY2] at HP
          clear hY1 hY2
          obtain ⟨hy10, hy11⟩ := hy1
          obtain ⟨hy20, hy21⟩ := hy2
          have l0b : 0 ≤ Y1 := by omega
          have l1b : Y1 < (N : Int) := by omega
          have l2b : 0 ≤ Y2 := by omega
          have l3b : Y2 < (N : Int) := by omega
          obtain ⟨xb, hxb⟩ : ∃ x, x = d2[Y1.toNat]! := ⟨_, rfl⟩
          obtain ⟨yb, hyb⟩ : ∃ x, x = d2[Y2.toNat]! := ⟨_, rfl⟩
          have qb := cell_regrown (rowN_at HR.out Y1 (by omega) (by omega)).1
          have rb := cell_regrown (rowN_at HR.out Y2 (by omega) (by omega)).1
          have cFb := cmpAt HO.out HB.out hbs (inR_at HI2.out HS.out Y1 (by omega) (by omega)) (inR_at HI2.out HS.out Y2 (by omega) (by omega))
          rw [← hxb] at qb cFb
          rw [← hyb] at rb cFb
          have HXb := Aside0.mk hxb
          have HYb := Aside0.mk hyb
          clear hxb hyb
          gi_wp2
          refine region_quiet_below (by kernel_rfl) (by kernel_rfl) (by kernel_rfl) ?_
          repeat (refine wpQuietIn_step (fun _ _ _ _ => trivial) (fun K hK => ?_); go_simp; first | (refine hK _ ?_; clear hK K) | (apply Exists.intro; refine ⟨fun _ => ?_, hK _ ?_⟩; (exact ⟨rfl, cFb _ _⟩); clear hK K))
          refine wpQuietIn_nil ?_
          intro _ hw'
          obtain ⟨⟨dq, osq⟩, hw''⟩ := hw'
          subst hw''
          have HRd := Aside0.mk (rowN_below HR.out (below_regrown wc dq osq))
          have HBd := Aside0.mk (HB.out.trans ((below_regrown wc dq osq).mono (Nat.le_trans hbs HB.out.size)))
          clear qb rb cFb
          generalize grow (redrawn wc dq) osq = W2 at HRd HBd ⊢
          clear HR HB
          by_cases hF : F xb yb < 0
          · have hp := HP.out.2 (by rw [← HXb.out, ← HYb.out]; exact decide_eq_true hF)
            have HP2 := Aside0.mk hp
            clear hp
            have l0s : 0 ≤ Y1 := by omega
            have l1s : Y1 < (N : Int) := by omega
            have l2s : 0 ≤ Y2 := by omega
            have l3s : Y2 < (N : Int) := by omega
            obtain ⟨d3, hd3⟩ : ∃ q, q = swp d2 Y1.toNat Y2.toNat := ⟨_, rfl⟩
            obtain ⟨is, his⟩ : ∃ q, q = Y1.toNat := ⟨_, rfl⟩
            obtain ⟨js, hjs⟩ : ∃ q, q = Y2.toNat := ⟨_, rfl⟩
            obtain ⟨xs, hxs⟩ : ∃ x, x = d2[Y1.toNat]! := ⟨_, rfl⟩
            obtain ⟨ys, hys⟩ : ∃ x, x = d2[Y2.toNat]! := ⟨_, rfl⟩
            have SWs := rowN_swap HRd.out Y1.toNat Y2.toNat
            obtain ⟨qs, fs⟩ := rowN_at HRd.out Y1 (by omega) (by omega)
            obtain ⟨rs, gs⟩ := rowN_at HRd.out Y2 (by omega) (by omega)
            obtain ⟨us, ss⟩ := rowN_second HRd.out Y1 Y2 (by omega) (by omega) (.int .i64 ys)
            rw [← hd3, ← hxs, ← hys, ← his, ← hjs] at SWs
            rw [← hxs, ← his] at qs
            rw [← hys, ← hjs] at rs
            rw [← his] at fs
            rw [← hjs] at gs
            rw [← his, ← hjs] at ss
            have eis : Y1.toNat = is := his.symm
            have ejs : Y2.toNat = js := hjs.symm
            have HSWs := Aside0.mk SWs
            have Hd3 := Aside0.mk hd3
            clear SWs his hjs hxs hys hd3
            have hnf : (!decide (F xb yb < 0)) = false := by rw [decide_eq_true hF]; rfl
            gi_upto_if 58 with (fail)
            rw [hnf]
            gi_wp2
            gi_region
            have HR3 := Aside0.mk (show RowN g cap base N d3 (((W2.setCell ⟨g, is, none⟩ (.int .i64 ys)).setCell ⟨g, js, none⟩ (.int .i64 xs)).drew) from HSWs.out)
            have HB3 := Aside0.mk (below_drew ((HBd.out.setCell (p := ⟨g, is, none⟩) hbg (.int .i64 ys)).setCell (p := ⟨g, js, none⟩) hbg (.int .i64 xs)))
            clear qs fs rs gs ss eis ejs HSWs
            generalize ((W2.setCell ⟨g, is, none⟩ (.int .i64 ys)).setCell ⟨g, js, none⟩ (.int .i64 xs)).drew = W3 at HR3 HB3 ⊢
            have HI3 := Aside0.mk (show InR n d3 by rw [Hd3.out]; exact inR_swp HI2.out _ _ (by have := HS.out; omega) (by have := HS.out; omega))
            gi_wp2
            go_roundw
            case rel => exact ⟨C2, d3, by omega, by omega, rfl, ⟨by rw [Hd3.out, ← HP2.out]; exact HT.out⟩, HI3, HR3, HB3⟩
            case measure => simp [intOf]; omega
          · have hp := HP.out.1 (by rw [← HXb.out, ← HYb.out]; exact decide_eq_false hF)
            have HP2 := Aside0.mk hp
            clear hp
            have hnf : (!decide (F xb yb < 0)) = true := by rw [decide_eq_false hF]; rfl
            gi_upto_if 58 with (fail)
            rw [hnf]
            gi_wp2
            refine bodyPost_ret (results_none rfl _ _ _) rfl ?_
            refine ⟨⟨_, rfl⟩, ?_, ?_, HBd.out⟩
            · rw [← HT.out, HP2.out]; exact HI2.out
            · rw [← HT.out, HP2.out]; exact HRd.out
set_option maxHeartbeats 4000000 in
set_option maxRecDepth 100000 in
theorem heapC (recv : Value) (n : Nat) (F : Int → Int → Int) (base g cap N : Nat) (d : Array Int) (A B : Int) (w : World) (hO : OrdB 37 recv n F base w) (hR : RowN g cap base N d w) (hin : InR n d) (h0 : 0 ≤ A) (h1 : A < B) (h2 : B ≤ (N : Int)) (hN : N ≤ 4096) :
    Calls Tryz.prog 90 #[.slice (some ⟨g, 0, none⟩) N cap, .int .i64 A, .int .i64 B, .func (.func 37) #[recv] #[]] w fun e w' => (∃ v, e = .returned v) ∧ RowN g cap base N (heapSort (ltF F) d A.toNat B.toNat) w' ∧ Below base w w' := by
  have hbg := rowN_base hR
  have hbs : base ≤ w.heap.size := Nat.le_of_lt (Nat.lt_of_le_of_lt hbg (rowN_lt hR))
  have HR := Aside0.mk hR
  have HO := Aside0.mk hO
  have HIN := Aside0.mk hin
  have HB := Aside0.mk (Below.refl base w)
  clear hO hR hin
  obtain ⟨L, hL⟩ : ∃ q : Int, q = B - A := ⟨_, rfl⟩
  obtain ⟨L2, hL2⟩ : ∃ q : Int, q = (L - 1) / 2 := ⟨_, rfl⟩
  have hL0 : 1 ≤ L := by omega
  have hL1 : A + L ≤ (N : Int) := by omega
  have hL20 : 0 ≤ L2 := by omega
  have hL21 : L2 ≤ L := by omega
  have eL : B - A = L := hL.symm
  have eL2 : (L - 1) / 2 = L2 := hL2.symm
  have HLL := Aside0.mk hL
  have HLL2 := Aside0.mk hL2
  have HE := Aside0.mk (show heapSort (ltF F) d A.toNat B.toNat = heapPop (ltF F) A.toNat L.toNat (heapBuild (ltF F) L.toNat A.toNat (L2 + 1).toNat d) by
    unfold heapSort
    rw [show B.toNat - A.toNat = L.toNat by omega, show (L.toNat - 1) / 2 + 1 = (L2 + 1).toNat by omega])
  clear hL hL2
  refine callsIn_wide (n := 0).1 ?_
  refine callsIn_of_wp Tryz.func90 rfl trivial ?_ rfl
  simp only [Tryz.ntmps90, List.size_toArray, List.length_cons, List.length_nil, Nat.reduceAdd, Nat.reduceSub, Array.replicate_succ, Array.replicate_zero, List.push_toArray, List.append_toArray, List.nil_append, List.cons_append]
  gi_wp2
  rw [eL2]
  clear eL2
  gi_loopw [11] (fun r wx => ∃ (I : Int) (d2 : Array Int), -1 ≤ I ∧ I ≤ L2 ∧ r = .int .i64 I ∧ Aside0 (heapBuild (ltF F) L.toNat A.toNat (I + 1).toNat d2 = heapBuild (ltF F) L.toNat A.toNat (L2 + 1).toNat d) ∧ Aside0 (InR n d2) ∧ Aside0 (RowN g cap base N d2 wx) ∧ Aside0 (Below base w wx)) (fun r _ => (intOf r + 1).toNat)
  case atStart => exact ⟨L2, d, by omega, by omega, rfl, ⟨rfl⟩, HIN, HR, HB⟩
  case round =>
    clear HR HB HIN
    obtain ⟨I, d2, hI0, hI1, rfl, HT, HI2, HR, HB⟩ := hrel
    by_cases hge : 0 ≤ I
    · have HC := Aside0.mk ((callsIn_wide (n := 0)).2 (siftC recv n F base g cap N d2 I L A wr (HO.out.move HB.out) HR.out HI2.out hge (by omega) (by omega) h0 hL1 hN))
      gi_wp2
      refine ⟨trivial, rfl, HC.out.mono ?_⟩
      rintro e w1 ⟨⟨v, rfl⟩, hi, hr, hb⟩
      have HR3 := Aside0.mk hr
      have HB3 := Aside0.mk (HB.out.trans hb)
      have HI3 := Aside0.mk hi
      clear hi hr hb HC
      gi_wp2
      go_roundw
      case rel => exact ⟨I - 1, _, by omega, by omega, rfl, ⟨by rw [← HT.out, show (I + 1).toNat = I.toNat + 1 by omega, show (I - 1 + 1).toNat = I.toNat by omega]; rfl⟩, HI3, HR3, HB3⟩
      case measure => simp [intOf]; omega
    · have hm : I = -1 := by omega
      subst hm
      have HT2 := Aside0.mk (show d2 = heapBuild (ltF F) L.toNat A.toNat (L2 + 1).toNat d from HT.out)
      clear HT
      gi_wp2
      gi_loopw [12] (fun r wx => ∃ (J : Int) (d3 : Array Int), -1 ≤ J ∧ J < L ∧ r = .int .i64 J ∧ Aside0 (heapPop (ltF F) A.toNat (J + 1).toNat d3 = heapPop (ltF F) A.toNat L.toNat d2) ∧ Aside0 (InR n d3) ∧ Aside0 (RowN g cap base N d3 wx) ∧ Aside0 (Below base w wx)) (fun r _ => (intOf r + 1).toNat)
      case atStart => exact ⟨L - 1, d2, by omega, by omega, rfl, ⟨by rw [show (L - 1 + 1).toNat = L.toNat by omega]⟩, HI2, HR, HB⟩
      case round =>
        clear HR HB
        obtain ⟨J, d3, hJ0, hJ1, rfl, HT, HI3, HR, HB⟩ := hrel
        by_cases hgj : 0 ≤ J
        · have HS := Aside0.mk HR.out.1
          obtain ⟨X, hX⟩ : ∃ X : Int, X = A + J := ⟨_, rfl⟩
          have hX0 : 0 ≤ X := by omega
          have hX1 : X < (N : Int) := by omega
          have eX : IntKind.i64.wrap (A + J) = X := wrap_of hX.symm (by omega) (by omega)
          have HXX := Aside0.mk hX
          clear hX
          have l0s : 0 ≤ A := by omega
          have l1s : A < (N : Int) := by omega
          have l2s : 0 ≤ X := by omega
          have l3s : X < (N : Int) := by omega
          obtain ⟨d4, hd4⟩ : ∃ q, q = swp d3 A.toNat X.toNat := ⟨_, rfl⟩
          obtain ⟨is, his⟩ : ∃ q, q = A.toNat := ⟨_, rfl⟩
          obtain ⟨js, hjs⟩ : ∃ q, q = X.toNat := ⟨_, rfl⟩
          obtain ⟨xs, hxs⟩ : ∃ x, x = d3[A.toNat]! := ⟨_, rfl⟩
          obtain ⟨ys, hys⟩ : ∃ x, x = d3[X.toNat]! := ⟨_, rfl⟩
          have SWs := rowN_swap HR.out A.toNat X.toNat
          obtain ⟨qs, fs⟩ := rowN_at HR.out A (by omega) (by omega)
          obtain ⟨rs, gs⟩ := rowN_at HR.out X (by omega) (by omega)
          obtain ⟨us, ss⟩ := rowN_second HR.out A X (by omega) (by omega) (.int .i64 ys)
          rw [← hd4, ← hxs, ← hys, ← his, ← hjs] at SWs
          rw [← hxs, ← his] at qs
          rw [← hys, ← hjs] at rs
          rw [← his] at fs
          rw [← hjs] at gs
          rw [← his, ← hjs] at ss
          have eis : A.toNat = is := his.symm
          have ejs : X.toNat = js := hjs.symm
          have HSWs := Aside0.mk SWs
          have Hd4 := Aside0.mk hd4
          clear SWs his hjs hxs hys hd4
          gi_wp2
          gi_region
          have HR3 := Aside0.mk (show RowN g cap base N d4 (((wr.setCell ⟨g, is, none⟩ (.int .i64 ys)).setCell ⟨g, js, none⟩ (.int .i64 xs)).drew) from HSWs.out)
          have HB3 := Aside0.mk (below_drew ((HB.out.setCell (p := ⟨g, is, none⟩) hbg (.int .i64 ys)).setCell (p := ⟨g, js, none⟩) hbg (.int .i64 xs)))
          clear qs fs rs gs ss eis ejs HSWs
          generalize ((wr.setCell ⟨g, is, none⟩ (.int .i64 ys)).setCell ⟨g, js, none⟩ (.int .i64 xs)).drew = W3 at HR3 HB3 ⊢
          have HI4 := Aside0.mk (show InR n d4 by rw [Hd4.out]; exact inR_swp HI3.out _ _ (by have := HS.out; omega) (by have := HS.out; omega))
          have HC := Aside0.mk ((callsIn_wide (n := 0)).2 (siftC recv n F base g cap N d4 0 J A W3 (HO.out.move HB3.out) HR3.out HI4.out (by omega) (by omega) hgj h0 (by omega) hN))
          gi_wp2
          refine ⟨trivial, rfl, HC.out.mono ?_⟩
          rintro e w1 ⟨⟨v, rfl⟩, hi, hr, hb⟩
          have HR5 := Aside0.mk hr
          have HB5 := Aside0.mk (HB3.out.trans hb)
          have HI5 := Aside0.mk hi
          clear hi hr hb HC
          gi_wp2
          go_roundw
          case rel =>
            refine ⟨J - 1, _, by omega, by omega, rfl, ⟨?_⟩, HI5, HR5, HB5⟩
            rw [← HT.out, show (J + 1).toNat = J.toNat + 1 by omega, show (J - 1 + 1).toNat = J.toNat by omega]
            show _ = heapPop (ltF F) A.toNat J.toNat (siftDown (ltF F) J.toNat A.toNat 0 (swp d3 A.toNat (A.toNat + J.toNat)))
            rw [Hd4.out, show X.toNat = A.toNat + J.toNat by have := HXX.out; omega]
            rfl
          case measure => simp [intOf]; omega
        · have hm : J = -1 := by omega
          subst hm
          gi_wp2
          go_end0
          refine ⟨⟨_, rfl⟩, ?_, HB.out⟩
          rw [HE.out, ← HT2.out, ← HT.out]
          exact HR.out
open Go.Sort (grow swp scanUp scanDown partLoop partition scanSorted partialInsertionSort partialIns)
theorem scanSorted_yes (lt : Int → Int → Bool) (d : Array Int) (b i : Int) (hi : 1 ≤ i) (hc : (decide (i < b) && !lt d[i.toNat]! d[(i - 1).toNat]!) = true) : scanSorted lt d b.toNat i.toNat = scanSorted lt d b.toNat (i + 1).toNat := by
  rw [Bool.and_eq_true, decide_eq_true_eq, show (i - 1).toNat = i.toNat - 1 by omega] at hc
  rw [scanSorted, if_pos (by simp [hc.2]; omega), show (i + 1).toNat = i.toNat + 1 by omega]
theorem scanSorted_no (lt : Int → Int → Bool) (d : Array Int) (b i : Int) (hi : 1 ≤ i) (hc : (decide (i < b) && !lt d[i.toNat]! d[(i - 1).toNat]!) = false) : scanSorted lt d b.toNat i.toNat = i.toNat := by
  rw [show (i - 1).toNat = i.toNat - 1 by omega] at hc
  rw [scanSorted, if_neg]
  intro h
  rw [Bool.and_eq_true, decide_eq_true_eq] at h
  rw [h.2, Bool.and_true, decide_eq_false_iff_not] at hc
  omega
theorem partial_two (lt : Int → Int → Bool) (d : Array Int) (A B I : Int) (h0 : 0 ≤ A) (h1 : A < B) (h2 : B < A + 50) (hI : A + 1 ≤ I) (h : scanSorted lt d B.toNat (A + 1).toNat = I.toNat) : partialInsertionSort lt d A.toNat B.toNat = (d, decide (I = B)) := by
  rw [show (A + 1).toNat = A.toNat + 1 by omega] at h
  unfold partialInsertionSort
  rw [partialIns]
  simp only [h]
  by_cases e : I = B
  · rw [if_pos (by omega)]; simp [e]
  · rw [if_neg (by omega), if_pos (by omega)]; simp [e]
def PisPost (g cap base N : Nat) (lt : Int → Int → Bool) (d : Array Int) (A B : Int) (w : World) (e : Ending) (w' : World) : Prop :=
  ∃ r : Bool, e = .returned (.bool r) ∧ partialInsertionSort lt d A.toNat B.toNat = (d, r) ∧ RowN g cap base N d w' ∧ Below base w w'
set_option maxHeartbeats 4000000 in
set_option maxRecDepth 100000 in
theorem pisC (recv : Value) (n : Nat) (F : Int → Int → Int) (base g cap N : Nat) (d : Array Int) (A B : Int) (w : World) (hO : OrdB 37 recv n F base w) (hR : RowN g cap base N d w) (hin : InR n d) (h0 : 0 ≤ A) (h1 : A < B) (h2 : B < A + 50) (h3 : B ≤ (N : Int)) (hN : N ≤ 4096) :
    Calls Tryz.prog 94 #[.slice (some ⟨g, 0, none⟩) N cap, .int .i64 A, .int .i64 B, .func (.func 37) #[recv] #[]] w (PisPost g cap base N (ltF F) d A B w) := by
  have hbg := rowN_base hR
  have hbs : base ≤ w.heap.size := Nat.le_of_lt (Nat.lt_of_le_of_lt hbg (rowN_lt hR))
  have HR := Aside0.mk hR
  have HO := Aside0.mk hO
  have HIN := Aside0.mk hin
  have HS := Aside0.mk hR.1
  have HB := Aside0.mk (Below.refl base w)
  clear hO hR hin
  refine callsIn_wide (n := 0).1 ?_
  refine callsIn_of_wp Tryz.func94 rfl trivial ?_ rfl
  simp only [Tryz.ntmps94, List.size_toArray, List.length_cons, List.length_nil, Nat.reduceAdd, Nat.reduceSub, Array.replicate_succ, Array.replicate_zero, List.push_toArray, List.append_toArray, List.nil_append, List.cons_append]
  gi_wp2
  gi_loopw [9, 10] (fun i j wx => i = .int .i64 (A + 1) ∧ j = .int .i64 0 ∧ Aside0 (RowN g cap base N d wx) ∧ Aside0 (Below base w wx)) (fun _ _ _ => 0)
  case atStart => exact ⟨rfl, rfl, HR, HB⟩
  case round =>
    clear HR HB
    obtain ⟨rfl, rfl, HR, HB⟩ := hrel
    gi_wp2
    gi_loopw [9] (fun i wx => ∃ I : Int, A + 1 ≤ I ∧ I ≤ B ∧ i = .int .i64 I ∧ Aside0 (scanSorted (ltF F) d B.toNat (A + 1).toNat = scanSorted (ltF F) d B.toNat I.toNat) ∧ Aside0 (RowN g cap base N d wx) ∧ Aside0 (Below base w wx)) (fun i _ => (B - intOf i).toNat)
    case atStart => exact ⟨A + 1, by omega, by omega, rfl, ⟨rfl⟩, HR, HB⟩
    case round =>
      clear HR HB
      obtain ⟨I, hI0, hI1, rfl, HT, HR, HB⟩ := hrel
      gi_upto_region 5 with (fail)
      gi_cut [36] from 999 (fun s wx => ∃ c : Bool, s = .bool c ∧ Aside0 (c = (decide (I < B) && !ltF F d[I.toNat]! d[(I - 1).toNat]!)) ∧ Aside0 (RowN g cap base N d wx) ∧ Aside0 (Below base w wx))
      case first =>
        by_cases hle : I < B
        · have hgd := decide_eq_true hle
          obtain ⟨J, hJ⟩ : ∃ J : Int, J = I - 1 := ⟨_, rfl⟩
          have eJ : IntKind.i64.wrap (I - 1) = J := by rw [hJ]; exact wrap_i64' (by omega) (by omega)
          have HJ := Aside0.mk hJ
          have hJ0 : A ≤ J := by omega
          have hJ1 : J < B := by omega
          clear hJ
          have l0a : 0 ≤ I := by omega
          have l1a : I < (N : Int) := by omega
          have l2a : 0 ≤ J := by omega
          have l3a : J < (N : Int) := by omega
          obtain ⟨xa, hxa⟩ : ∃ x, x = d[I.toNat]! := ⟨_, rfl⟩
          obtain ⟨ya, hya⟩ : ∃ x, x = d[J.toNat]! := ⟨_, rfl⟩
          have qa := cell_regrown (rowN_at HR.out I (by omega) (by omega)).1
          have ra := cell_regrown (rowN_at HR.out J (by omega) (by omega)).1
          have cFa := cmpAt HO.out HB.out hbs (inR_at HIN.out HS.out I (by omega) (by omega)) (inR_at HIN.out HS.out J (by omega) (by omega))
          rw [← hxa] at qa cFa
          rw [← hya] at ra cFa
          have HXa := Aside0.mk hxa
          have HYa := Aside0.mk hya
          clear hxa hya
          gi_wp2
          refine region_quiet_below (by kernel_rfl) (by kernel_rfl) (by kernel_rfl) ?_
          repeat (refine wpQuietIn_step (fun _ _ _ _ => trivial) (fun K hK => ?_); go_simp; first | (refine hK _ ?_; clear hK K) | (apply Exists.intro; refine ⟨fun _ => ?_, hK _ ?_⟩; (exact ⟨rfl, cFa _ _⟩); clear hK K))
          refine wpQuietIn_nil ?_
          intro _ hw'
          obtain ⟨⟨dq, osq⟩, hw''⟩ := hw'
          subst hw''
          have HRc := Aside0.mk (rowN_below HR.out (below_regrown wr dq osq))
          have HBc := Aside0.mk (HB.out.trans ((below_regrown wr dq osq).mono (Nat.le_trans hbs HB.out.size)))
          clear qa ra cFa
          generalize grow (redrawn wr dq) osq = W2 at HRc HBc ⊢
          gi_wp2
          gi_meet
          case rel => exact ⟨_, rfl, ⟨by rw [decide_eq_true (show I < B by omega), Bool.true_and, ← HJ.out, ← HXa.out, ← HYa.out]; first | rfl | simp [ltF]⟩, HRc, HBc⟩
        · have hgd : decide (I < B) = false := decide_eq_false hle
          gi_wp2
          refine region_quiet_below (by kernel_rfl) (by kernel_rfl) (by kernel_rfl) ?_
          repeat (refine wpQuietIn_step (fun _ _ _ _ => trivial) (fun K hK => ?_); go_simp; first | (refine hK _ ?_; clear hK K))
          refine wpQuietIn_nil ?_
          intro _ hw'
          obtain ⟨⟨dq, osq⟩, hw''⟩ := hw'
          subst hw''
          have HRc := Aside0.mk (rowN_below HR.out (below_regrown wr dq osq))
          have HBc := Aside0.mk (HB.out.trans ((below_regrown wr dq osq).mono (Nat.le_trans hbs HB.out.size)))
          generalize grow (redrawn wr dq) osq = W2 at HRc HBc ⊢
          gi_wp2
          gi_meet
          case rel => exact ⟨_, rfl, ⟨by rw [decide_eq_false (show ¬ (I < B) by omega), Bool.false_and]⟩, HRc, HBc⟩
      case rest =>
        clear HR HB
        obtain ⟨c, rfl, HC, HR, HB⟩ := hcut
        cases c with
        | true =>
          have hlt : I < B := by
            have h := HC.out
            rw [eq_comm, Bool.and_eq_true, decide_eq_true_eq] at h
            exact h.1
          gi_wp2
          go_roundw
          case rel => exact ⟨I + 1, by omega, by omega, rfl, ⟨HT.out.trans (scanSorted_yes (ltF F) d B I (by omega) HC.out.symm)⟩, HR, HB⟩
          case measure => simp [intOf]; omega
        | false =>
          have HE := Aside0.mk (partial_two (ltF F) d A B I h0 h1 h2 hI0 (HT.out.trans (scanSorted_no (ltF F) d B I (by omega) HC.out.symm)))
          clear HT
          by_cases hIB : I = B
          · subst hIB
            have HE2 := Aside0.mk (show partialInsertionSort (ltF F) d A.toNat I.toNat = (d, true) by rw [HE.out]; simp)
            gi_wp2
            exact bodyPost_ret (results_tmp rfl _ _ _) rfl ⟨true, rfl, HE2.out, HR.out, HB.out⟩
          · have HE2 := Aside0.mk (show partialInsertionSort (ltF F) d A.toNat B.toNat = (d, false) by rw [HE.out]; simp [hIB])
            have hlt : I < B := by omega
            have hsh : B - A < 50 := by omega
            have hne : ((I : Int) == B) = false := by simpa using hIB
            clear hIB
            gi_wp2
            exact bodyPost_ret (results_tmp rfl _ _ _) rfl ⟨false, rfl, HE2.out, HR.out, HB.out⟩
theorem rowN_keep {g cap base N : Nat} {d : Array Int} {w W : World} (h : RowN g cap base N d w) (hk : W.heap[g]? = w.heap[g]?) : RowN g cap base N d W := by
  refine ⟨h.1, ?_⟩
  obtain ⟨h1, h2⟩ := h.2
  refine ⟨h1, ?_⟩
  rcases h2 with h2 | ⟨g', cap', cur, hv, hg, hh, r⟩
  · exact Or.inl h2
  · refine Or.inr ⟨g', cap', cur, hv, hg, ?_, r⟩
    have e : g = g' := (show g = g' ∧ cap = cap' by simpa using hv).1
    subst e
    rw [hk]; exact hh
def Box (c : Nat) (s : Int) (w : World) : Prop := w.heap[c]? = some (.cells #[.int .i64 s] 3 (0, 0))
def Ord2Post (g cap base N c : Nat) (d : Array Int) (A B s : Int) (w : World) (e : Ending) (w' : World) : Prop :=
  ∃ x y s' : Int, e = .returned (.tuple #[.int .i64 x, .int .i64 y]) ∧ (x = A ∨ x = B) ∧ (y = A ∨ y = B) ∧ s ≤ s' ∧ s' ≤ s + 1 ∧ RowN g cap base N d w' ∧ Box c s' w' ∧ Below base w w'
def MedPost (g cap base N c : Nat) (d : Array Int) (A B C s : Int) (w : World) (e : Ending) (w' : World) : Prop :=
  ∃ x s' : Int, e = .returned (.int .i64 x) ∧ (x = A ∨ x = B ∨ x = C) ∧ s ≤ s' ∧ s' ≤ s + 3 ∧ RowN g cap base N d w' ∧ Box c s' w' ∧ Below base w w'
def PivPost (g cap base N : Nat) (d : Array Int) (A B : Int) (w : World) (e : Ending) (w' : World) : Prop :=
  ∃ p h : Int, e = .returned (.tuple #[.int .i64 p, .int .i64 h]) ∧ A ≤ p ∧ p < B ∧ (h = 0 ∨ h = 1) ∧ RowN g cap base N d w' ∧ Below base w w'
set_option maxHeartbeats 4000000 in
set_option maxRecDepth 100000 in
theorem ord2C (recv : Value) (n : Nat) (F : Int → Int → Int) (base g cap N : Nat) (d : Array Int) (c : Nat) (A B s : Int) (w : World) (hO : OrdB 37 recv n F base w) (hR : RowN g cap base N d w) (hin : InR n d) (hc : Box c s w) (hcb : base ≤ c) (hcg : c ≠ g) (ha0 : 0 ≤ A) (ha : A < (N : Int)) (hb0 : 0 ≤ B) (hb : B < (N : Int)) (hs0 : 0 ≤ s) (hs : s ≤ 100) (hN : N ≤ 4096) :
    Calls Tryz.prog 121 #[.slice (some ⟨g, 0, none⟩) N cap, .int .i64 A, .int .i64 B, .pointer (some ⟨c, 0, none⟩), .func (.func 37) #[recv] #[]] w (Ord2Post g cap base N c d A B s w) := by
  have hbg := rowN_base hR
  have hbs : base ≤ w.heap.size := Nat.le_of_lt (Nat.lt_of_le_of_lt hbg (rowN_lt hR))
  have HR := Aside0.mk hR
  have HO := Aside0.mk hO
  have HIN := Aside0.mk hin
  have HS := Aside0.mk hR.1
  have HB := Aside0.mk (Below.refl base w)
  have HC := Aside0.mk hc
  clear hO hR hin hc
  have l0a : 0 ≤ B := by omega
  have l1a : B < (N : Int) := by omega
  have l2a : 0 ≤ A := by omega
  have l3a : A < (N : Int) := by omega
  obtain ⟨xa, hxa⟩ : ∃ x, x = d[B.toNat]! := ⟨_, rfl⟩
  obtain ⟨ya, hya⟩ : ∃ x, x = d[A.toNat]! := ⟨_, rfl⟩
  have qa := cell_regrown (rowN_at HR.out B (by omega) (by omega)).1
  have ra := cell_regrown (rowN_at HR.out A (by omega) (by omega)).1
  have cFa := cmpAt HO.out HB.out hbs (inR_at HIN.out HS.out B (by omega) (by omega)) (inR_at HIN.out HS.out A (by omega) (by omega))
  rw [← hxa] at qa cFa
  rw [← hya] at ra cFa
  have HXa := Aside0.mk hxa
  have HYa := Aside0.mk hya
  clear hxa hya
  refine callsIn_wide (n := 0).1 ?_
  refine callsIn_of_wp Tryz.func121 rfl trivial ?_ rfl
  simp only [Tryz.ntmps121, List.size_toArray, List.length_cons, List.length_nil, Nat.reduceAdd, Nat.reduceSub, Array.replicate_succ, Array.replicate_zero, List.push_toArray, List.append_toArray, List.nil_append, List.cons_append]
  gi_wp2
  refine region_quiet_below (by kernel_rfl) (by kernel_rfl) (by kernel_rfl) ?_
  repeat (refine wpQuietIn_step (fun _ _ _ _ => trivial) (fun K hK => ?_); go_simp; first | (refine hK _ ?_; clear hK K) | (apply Exists.intro; refine ⟨fun _ => ?_, hK _ ?_⟩; (exact ⟨rfl, cFa _ _⟩); clear hK K))
  refine wpQuietIn_nil ?_
  intro _ hw'
  obtain ⟨⟨dq, osq⟩, hw''⟩ := hw'
  subst hw''
  have HR2 := Aside0.mk (rowN_below HR.out (below_regrown w dq osq))
  have HB2 := Aside0.mk (HB.out.trans ((below_regrown w dq osq).mono (Nat.le_trans hbs HB.out.size)))
  have HC2 := Aside0.mk (blk_below HC.out (below_regrown w dq osq))
  clear qa ra cFa
  generalize grow (redrawn w dq) osq = W2 at HR2 HB2 HC2 ⊢
  have hcl := cell_of_blk HC2.out
  have hcf := frozen_of_blk HC2.out
  by_cases hF : F xa ya < 0
  · gi_wp2
    go_ret2
    refine ⟨B, A, s + 1, rfl, .inr rfl, .inl rfl, by omega, by omega, rowN_keep HR2.out (Below.heap_setCell _ _ _ _ (Ne.symm hcg)), blk_put HC2.out 0 _ rfl, HB2.out.setCell (p := ⟨c, 0, none⟩) hcb _⟩
  · gi_wp2
    go_ret2
    exact ⟨A, B, s, rfl, .inl rfl, .inr rfl, by omega, by omega, HR2.out, HC2.out, HB2.out⟩
set_option maxHeartbeats 4000000 in
set_option maxRecDepth 100000 in
theorem medC (recv : Value) (n : Nat) (F : Int → Int → Int) (base g cap N : Nat) (d : Array Int) (c : Nat) (A B C s : Int) (w : World) (hO : OrdB 37 recv n F base w) (hR : RowN g cap base N d w) (hin : InR n d) (hc : Box c s w) (hcb : base ≤ c) (hcg : c ≠ g) (ha0 : 0 ≤ A) (ha : A < (N : Int)) (hb0 : 0 ≤ B) (hb : B < (N : Int)) (hd0 : 0 ≤ C) (hd : C < (N : Int)) (hs0 : 0 ≤ s) (hs : s ≤ 90) (hN : N ≤ 4096) :
    Calls Tryz.prog 117 #[.slice (some ⟨g, 0, none⟩) N cap, .int .i64 A, .int .i64 B, .int .i64 C, .pointer (some ⟨c, 0, none⟩), .func (.func 37) #[recv] #[]] w (MedPost g cap base N c d A B C s w) := by
  have hbg := rowN_base hR
  have hbs : base ≤ w.heap.size := Nat.le_of_lt (Nat.lt_of_le_of_lt hbg (rowN_lt hR))
  have HR := Aside0.mk hR
  have HO := Aside0.mk hO
  have HIN := Aside0.mk hin
  have HS := Aside0.mk hR.1
  have HB := Aside0.mk (Below.refl base w)
  have HC := Aside0.mk hc
  have HA := Aside0.mk (show A = A ∨ A = B ∨ A = C from .inl rfl)
  have H1 := Aside0.mk (ord2C recv n F base g cap N d c A B s w hO hR hin hc hcb hcg ha0 ha hb0 hb hs0 (by omega) hN)
  clear hO hR hin hc
  go_enter Tryz.func117, Tryz.ntmps117
  go_wp2_with fail
  refine H1.out.mono ?_
  rintro e w1 ⟨x1, y1, s1, rfl, hx1, hy1, hs1, hs1', hr1, hb1, hw1⟩
  have HB1 := Aside0.mk hw1
  have HX1 := Aside0.mk hx1
  have HY1 := Aside0.mk hy1
  have H2 := Aside0.mk (ord2C recv n F base g cap N d c y1 C s1 w1 (HO.out.move hw1) hr1 HIN.out hb1 hcb hcg (by omega) (by omega) hd0 hd (by omega) (by omega) hN)
  have hx10 : 0 ≤ x1 := by omega
  have hx11 : x1 < (N : Int) := by omega
  clear hr1 hb1 hw1 hx1 hy1 H1
  go_wp2_with fail
  refine H2.out.mono ?_
  rintro e w2 ⟨x2, y2, s2, rfl, hx2, hy2, hs2, hs2', hr2, hb2, hw2⟩
  have HB2 := Aside0.mk (HB1.out.trans hw2)
  have HX2 := Aside0.mk (show x2 = A ∨ x2 = B ∨ x2 = C by have := HY1.out; omega)
  have H3 := Aside0.mk (ord2C recv n F base g cap N d c x1 x2 s2 w2 (HO.out.move HB2.out) hr2 HIN.out hb2 hcb hcg hx10 hx11 (by have := HX2.out; omega) (by have := HX2.out; omega) (by omega) (by omega) hN)
  clear hr2 hb2 hw2 hx2 hy2 H2
  go_wp2_with fail
  refine H3.out.mono ?_
  rintro e w3 ⟨x3, y3, s3, rfl, hx3, hy3, hs3, hs3', hr3, hb3, hw3⟩
  have HB3 := Aside0.mk (HB2.out.trans hw3)
  have HY3 := Aside0.mk (show y3 = A ∨ y3 = B ∨ y3 = C by have := HX1.out; have := HX2.out; omega)
  have HR3 := Aside0.mk hr3
  have HC3 := Aside0.mk hb3
  clear hr3 hb3 hw3 hx3 hy3 H3
  go_wp2
  go_ret
  exact ⟨y3, s3, rfl, HY3.out, by omega, by omega, HR3.out, HC3.out, HB3.out⟩
set_option maxHeartbeats 4000000 in
set_option maxRecDepth 100000 in
theorem pivC (recv : Value) (n : Nat) (F : Int → Int → Int) (base g cap N : Nat) (d : Array Int) (A B : Int) (w : World) (hO : OrdB 37 recv n F base w) (hR : RowN g cap base N d w) (hin : InR n d) (h0 : 0 ≤ A) (h1 : A + 13 ≤ B) (h2 : B < A + 50) (h3 : B ≤ (N : Int)) (hN : N ≤ 4096) :
    Calls Tryz.prog 92 #[.slice (some ⟨g, 0, none⟩) N cap, .int .i64 A, .int .i64 B, .func (.func 37) #[recv] #[]] w (PivPost g cap base N d A B w) := by
  have hbg := rowN_base hR
  have hbs : base ≤ w.heap.size := Nat.le_of_lt (Nat.lt_of_le_of_lt hbg (rowN_lt hR))
  have HR := Aside0.mk hR
  have HO := Aside0.mk hO
  have HIN := Aside0.mk hin
  have HS := Aside0.mk hR.1
  have HB := Aside0.mk (Below.refl base w)
  obtain ⟨L, hL⟩ : ∃ q : Int, q = B - A := ⟨_, rfl⟩
  obtain ⟨Q, hQ⟩ : ∃ q : Int, q = L / 4 := ⟨_, rfl⟩
  have hQ0 : 3 ≤ Q := by omega
  have hQ1 : 4 * Q ≤ L := by omega
  have hLL : 13 ≤ L ∧ L < 50 := by omega
  obtain ⟨hL8, hL50⟩ := hLL
  have hBL : A + L ≤ (N : Int) := by omega
  have hLB : A + L ≤ B := by omega
  have eL : B - A = L := hL.symm
  have eQ : L / 4 = Q := hQ.symm
  have HLL := Aside0.mk hL
  have HQQ := Aside0.mk hQ
  have HM := Aside0.mk (fun W (hW : Below base w W) (hr : RowN g cap base N d W) (c : Nat) (hc : Box c 0 W) (hcb : base ≤ c) (hcg : c ≠ g) => medC recv n F base g cap N d c (A + Q) (A + Q * 2) (A + Q * 3) 0 W (hO.move hW) hr hin hc hcb hcg (by omega) (by omega) (by omega) (by omega) (by omega) (by omega) (by omega) (by omega) hN)
  have hwg := rowN_lt hR
  clear hO hR hin hL hQ
  go_enter Tryz.func92, Tryz.ntmps92
  go_wp2_with fail
  refine (HM.out _ (HB.out.trans ((below_alloc (Below.refl w.heap.size w) _).mono hbs)) (rowN_below HR.out (below_alloc (Below.refl w.heap.size w) _)) w.heap.size (blk_new w _) hbs (by omega)).mono ?_
  rintro e w1 ⟨x, s, rfl, hx, hs0, hs1, hr, hc, hb⟩
  have hcl := cell_of_blk hc
  have HR1 := Aside0.mk hr
  have HB1 := Aside0.mk (((below_alloc (Below.refl w.heap.size w) _).mono hbs).trans hb)
  have hx0 : A ≤ x := by omega
  have hx1 : x < B := by omega
  clear hr hc hb hx HM
  by_cases hz : s = 0
  · subst hz
    go_wp2
    go_ret2
    exact ⟨x, 1, rfl, hx0, hx1, .inr rfl, HR1.out, HB1.out⟩
  · have hz1 : ¬ s = 12 := by omega
    go_wp2
    go_ret2
    exact ⟨x, 0, rfl, hx0, hx1, .inl rfl, HR1.out, HB1.out⟩
end Go.Proofs.YthbkomkgciemiaaGreat.PKF
namespace Go.Proofs
open Go.Shelf
def Tryz.laysX48_ren : Go.Shelf.Ren := ⟨fun | 48 => 115 | n => n, fun | 76 => 135 | 55 => 120 | 0 => 0 | 66 => 127 | 39 => 103 | n => n, fun | n => n⟩
theorem Tryz.laysX48 : Go.Proofs.SlLaysF0.n48 Tryz.prog Tryz.laysX48_ren := {
  mixed := by kernel_rfl
  f48 := Tryz.func115.trans (congrArg some (by kernel_rfl))
  t0 := Tryz.underlying0
  a0 := Tryz.isAgg0
  z0 := Tryz.sizeOf0
  v0 := Tryz.zeroValue0
  t39 := Tryz.underlying103
  a39 := Tryz.isAgg103
  z39 := Tryz.sizeOf103
  v39 := Tryz.zeroValue103
  t55 := Tryz.underlying120
  a55 := Tryz.isAgg120
  z55 := Tryz.sizeOf120
  v55 := Tryz.zeroValue120
  t66 := Tryz.underlying127
  a66 := Tryz.isAgg127
  z66 := Tryz.sizeOf127
  v66 := Tryz.zeroValue127
  t76 := Tryz.underlying135
  a76 := Tryz.isAgg135
  z76 := Tryz.sizeOf135
  v76 := Tryz.zeroValue135 }
open Go.RowKit Go.Lib Go.Sort in
theorem Tryz.xorshift_Next (rb ro X : Nat) (hX : X < 18446744073709551616) (w : World) (hc : w.cell? ⟨rb, ro, none⟩ = some (.int .u64 X)) (hf : w.frozen? ⟨rb, ro, none⟩ = false) :
    Calls Tryz.prog 115 #[.pointer (some ⟨rb, ro, none⟩)] w fun e w' => e = .returned (.int .u64 (xorNextN X : Nat)) ∧ w' = (w.setCell ⟨rb, ro, none⟩ (.int .u64 (xorNextN X : Nat))).drewN 3 := AnyF.xorshift_Next Tryz.laysX48 rb ro X hX w hc hf
def Tryz.laysX47_ren : Go.Shelf.Ren := ⟨fun | 47 => 114 | 15 => 79 | 28 => 97 | 29 => 98 | n => n, fun | 3 => 3 | 39 => 103 | 53 => 118 | 55 => 120 | 4 => 4 | 5 => 5 | 9 => 9 | n => n, fun | n => n⟩
theorem Tryz.laysX47 : Go.Proofs.SlLaysF0.n47 Tryz.prog Tryz.laysX47_ren := {
  mixed := by kernel_rfl
  f15 := Tryz.func79.trans (congrArg some (by kernel_rfl))
  f28 := Tryz.func97.trans (congrArg some (by kernel_rfl))
  f29 := Tryz.func98.trans (congrArg some (by kernel_rfl))
  f47 := Tryz.func114.trans (congrArg some (by kernel_rfl))
  t3 := Tryz.underlying3
  a3 := Tryz.isAgg3
  z3 := Tryz.sizeOf3
  v3 := Tryz.zeroValue3
  t4 := Tryz.underlying4
  a4 := Tryz.isAgg4
  z4 := Tryz.sizeOf4
  v4 := Tryz.zeroValue4
  t5 := Tryz.underlying5
  a5 := Tryz.isAgg5
  z5 := Tryz.sizeOf5
  v5 := Tryz.zeroValue5
  t9 := Tryz.underlying9
  a9 := Tryz.isAgg9
  z9 := Tryz.sizeOf9
  v9 := Tryz.zeroValue9
  t39 := Tryz.underlying103
  a39 := Tryz.isAgg103
  z39 := Tryz.sizeOf103
  v39 := Tryz.zeroValue103
  t53 := Tryz.underlying118
  a53 := Tryz.isAgg118
  z53 := Tryz.sizeOf118
  v53 := Tryz.zeroValue118
  t55 := Tryz.underlying120
  a55 := Tryz.isAgg120
  z55 := Tryz.sizeOf120
  v55 := Tryz.zeroValue120 }
open Go.RowKit Go.Lib Go.Sort in
theorem Tryz.nextPowerOfTwo (n : Nat) (hn : n < 4611686018427387904) (w : World) :
    Calls Tryz.prog 114 #[.int .i64 n] w fun e w' => e = .returned (.int .u64 ((1 <<< bitsLen n : Nat) : Int)) ∧ w' = w := AnyF.nextPowerOfTwo Tryz.laysX47 n hn w
end Go.Proofs
namespace Go.Proofs.YthbkomkgciemiaaGreat.PKF
open Go.Proofs.YthbkomkgciemiaaGreat.RF
open Go.RowKit Go.Proofs.YthbkomkgciemiaaGreatW.PrintWords Go.Proofs.YthbkomkgciemiaaGreatW.PrintLast Go.Proofs.YthbkomkgciemiaaGreatW.PrintMore
attribute [local go_sem] max2_int min2_int max_two min_two max_three min_three max_four min_four
set_option linter.unusedVariables false
set_option linter.unusedSimpArgs false
open Go.RowKit
open Go.Sort (grow swp scanUp scanDown partLoop partition PermIn bitsLen xorNextN xorNextN_lt two_pow_bitsLen_le permIn_refl permIn_trans swp_permIn)
def BrkPost (g cap base N n : Nat) (d : Array Int) (A B : Int) (w : World) (e : Ending) (w' : World) : Prop :=
  (∃ v, e = .returned v) ∧ ∃ d', PermIn A.toNat B.toNat d d' ∧ InR n d' ∧ RowN g cap base N d' w' ∧ Below base w w'
def XBox (c X : Nat) (w : World) : Prop := w.heap[c]? = some (.cells #[.int .u64 X] 127 (0, 0))
theorem xbox_cell {c X : Nat} {w : World} (h : XBox c X w) : w.cell? ⟨c, 0, none⟩ = some (.int .u64 X) := cell_of_blk h
theorem xbox_frozen {c X : Nat} {w : World} (h : XBox c X w) : w.frozen? ⟨c, 0, none⟩ = false := frozen_of_blk h
theorem below_drewN {b : Nat} {w W : World} (h : Below b w W) (n : Nat) : Below b w (W.drewN n) := pw_below_drewN h n
theorem permIn_swp {a b : Nat} {d d2 : Array Int} (h : PermIn a b d d2) (hb : b ≤ d.size) (i j : Nat) (hi : a ≤ i ∧ i < b) (hj : a ≤ j ∧ j < b) : PermIn a b d (swp d2 i j) :=
  permIn_trans _ _ _ _ _ h (swp_permIn _ _ _ _ _ hi.1 hi.2 hj.1 hj.2 (by rw [h.1]; exact hb))
set_option maxHeartbeats 4000000 in
set_option maxRecDepth 100000 in
theorem brkC (recv : Value) (n : Nat) (F : Int → Int → Int) (base g cap N : Nat) (d : Array Int) (A B : Int) (w : World) (hO : OrdB 37 recv n F base w) (hR : RowN g cap base N d w) (hin : InR n d) (h0 : 0 ≤ A) (h1 : A + 13 ≤ B) (h3 : B ≤ (N : Int)) (hN : N ≤ 4096) :
    Calls Tryz.prog 91 #[.slice (some ⟨g, 0, none⟩) N cap, .int .i64 A, .int .i64 B, .func (.func 37) #[recv] #[]] w (BrkPost g cap base N n d A B w) := by
  have hbg := rowN_base hR
  have hbs : base ≤ w.heap.size := Nat.le_of_lt (Nat.lt_of_le_of_lt hbg (rowN_lt hR))
  have HR := Aside0.mk hR
  have HO := Aside0.mk hO
  have HIN := Aside0.mk hin
  have HS := Aside0.mk hR.1
  have HB := Aside0.mk (Below.refl base w)
  obtain ⟨L, hL⟩ : ∃ q : Nat, (q : Int) = B - A := ⟨(B - A).toNat, by omega⟩
  obtain ⟨M, hM⟩ : ∃ q : Nat, q = 1 <<< bitsLen L := ⟨_, rfl⟩
  have hM1 : 1 ≤ M := by rw [hM, Nat.one_shiftLeft]; exact Nat.two_pow_pos _
  have hM2 : M ≤ 2 * L := by rw [hM, Nat.one_shiftLeft]; exact two_pow_bitsLen_le (by omega)
  have HNP := Aside0.mk (fun W => (callsIn_wide (n := 0)).2 (show Calls Tryz.prog 114 #[.int .i64 L] W fun e w' => e = .returned (.int .u64 (M : Int)) ∧ w' = W by rw [hM]; exact Tryz.nextPowerOfTwo L (by omega) W))
  obtain ⟨Q, hQ⟩ : ∃ q : Int, q = (L : Int) / 4 := ⟨_, rfl⟩
  obtain ⟨I0, hI0⟩ : ∃ q : Int, q = A + Q * 2 - 1 := ⟨_, rfl⟩
  have hQ0 : 3 ≤ Q := by omega
  have hQ1 : 4 * Q ≤ L := by omega
  have hLB : A + L ≤ B := by omega
  have hLB' : B ≤ A + L := by omega
  have hL13 : 13 ≤ (L : Int) := by omega
  have hL8 : (8 : Int) ≤ (L : Int) := by omega
  have hLN : (L : Int) ≤ 4096 := by omega
  have hM3 : (M : Int) ≤ 8192 := by omega
  have hM4 : 1 ≤ (M : Int) := by omega
  have hI1 : A ≤ I0 := by omega
  have hI2 : I0 + 3 ≤ B := by omega
  have eL : B - A = (L : Int) := hL.symm
  have eQ : (L : Int) / 4 = Q := hQ.symm
  have eI : A + Q * 2 - 1 = I0 := hI0.symm
  have eU : IntKind.u64.wrap (L : Int) = L := IntWalk.u64_in (L : Int) (by omega)
  have hwg := rowN_lt hR
  have HII := Aside0.mk hI0
  have HQQ := Aside0.mk hQ
  clear hO hR hL hM hQ hI0
  refine callsIn_wide (n := 0).1 ?_
  refine callsIn_of_wp Tryz.func91 rfl trivial ?_ rfl
  simp only [Tryz.ntmps91, List.size_toArray, List.length_cons, List.length_nil, Nat.reduceAdd, Nat.reduceSub, Array.replicate_succ, Array.replicate_zero, List.push_toArray, List.append_toArray, List.nil_append, List.cons_append]
  gi_wp2
  refine ⟨trivial, rfl, (HNP.out _).mono ?_⟩
  rintro e w1 ⟨rfl, rfl⟩
  gi_wp2
  gi_loopw [11] (fun i wx => ∃ (I : Int) (d2 : Array Int) (X : Nat), I0 ≤ I ∧ I ≤ I0 + 3 ∧ i = .int .i64 I ∧ Aside0 (X < 18446744073709551616) ∧ Aside0 (PermIn A.toNat B.toNat d d2) ∧ Aside0 (InR n d2) ∧ Aside0 (XBox w.heap.size X wx) ∧ Aside0 (RowN g cap base N d2 wx) ∧ Aside0 (Below base w wx)) (fun i _ => (I0 + 3 - intOf i).toNat)
  case atStart => exact ⟨I0, d, L, by omega, by omega, rfl, ⟨by omega⟩, ⟨permIn_refl _ _ _⟩, HIN, ⟨blk_new _ _⟩, ⟨rowN_below HR.out (below_alloc (Below.refl _ _) _)⟩, ⟨(below_alloc (Below.refl _ _) _).mono hbs⟩⟩
  case round =>
    clear HB HR HIN HS
    obtain ⟨I, d2, X, hIa, hIb, rfl, HXL, HP, HI2, HX, HR, HB⟩ := hrel
    have HS := Aside0.mk HR.out.1
    by_cases hle : I ≤ I0 + 2
    · obtain ⟨X', hX'⟩ : ∃ q : Nat, q = xorNextN X := ⟨_, rfl⟩
      have HXL2 := Aside0.mk (show X' < 18446744073709551616 by rw [hX']; exact xorNextN_lt X HXL.out)
      obtain ⟨O, hO⟩ : ∃ O : Nat, O = X' &&& (M - 1) := ⟨_, rfl⟩
      have lO : O ≤ M - 1 := by rw [hO]; exact Nat.and_le_right
      have hO2 : (O : Int) < 2 * (L : Int) := by omega
      have hO3 : 0 ≤ (O : Int) := by omega
      have eAnd : bits .and .u64 (X' : Int) ((M : Int) - 1) = (O : Int) := by
        rw [show ((M : Int) - 1) = ((M - 1 : Nat) : Int) by omega, bits_and_u64_nat _ _ HXL2.out (by omega), hO]
      have eM : IntKind.u64.wrap ((M : Int) - 1) = (M : Int) - 1 := IntWalk.u64_in ((M : Int) - 1) (by omega)
      have eO : IntKind.i64.wrap (O : Int) = O := wrap_i64' (by omega) (by omega)
      have HN := Aside0.mk ((callsIn_wide (n := 0)).2 (Tryz.xorshift_Next w.heap.size 0 X HXL.out wr (xbox_cell HX.out) (xbox_frozen HX.out)))
      rw [← hX'] at HN
      have hc1 : I ≤ A + Q * 2 + 1 := by have := HII.out; omega
      clear hX' hO
      gi_wp2
      refine ⟨trivial, rfl, HN.out.mono ?_⟩
      rintro e w2 ⟨rfl, hw2⟩
      have HB2 := Aside0.mk (show Below base w w2 by rw [hw2]; exact below_drewN (HB.out.setCell (p := ⟨w.heap.size, 0, none⟩) hbs _) 3)
      have HR2 := Aside0.mk (show RowN g cap base N d2 w2 by rw [hw2]; exact rowN_keep HR.out (Below.heap_setCell _ _ _ _ (by show g ≠ w.heap.size; omega)))
      have HX2 := Aside0.mk (show XBox w.heap.size X' w2 by rw [hw2]; exact blk_put HX.out 0 _ rfl)
      clear hw2 HN HB HR HX
      gi_upto_if 45 with (fail)
      gi_cut [12] from 45 (fun s wx => ∃ O2 : Int, s = .int .i64 O2 ∧ 0 ≤ O2 ∧ O2 < L ∧ Aside0 (XBox w.heap.size X' wx) ∧ Aside0 (RowN g cap base N d2 wx) ∧ Aside0 (Below base w wx))
      case first =>
        by_cases hge : (L : Int) ≤ (O : Int)
        · gi_wp2
          gi_meet
          case rel => exact ⟨(O : Int) - L, rfl, by omega, by omega, HX2, HR2, HB2⟩
        · gi_wp2
          gi_meet
          case rel => exact ⟨(O : Int), rfl, by omega, by omega, HX2, HR2, HB2⟩
      case rest =>
        clear HX2 HR2 HB2
        obtain ⟨O2, rfl, hO20, hO21, HX, HR, HB⟩ := hcut
        obtain ⟨Y, hY⟩ : ∃ X : Int, X = A + O2 := ⟨_, rfl⟩
        have hY0 : 0 ≤ Y := by omega
        have hY1 : Y < (N : Int) := by omega
        have eY : IntKind.i64.wrap (A + O2) = Y := by rw [hY]; exact wrap_i64' (by omega) (by omega)
        have HYY := Aside0.mk hY
        clear hY
        have l0s : 0 ≤ I := by omega
        have l1s : I < (N : Int) := by omega
        have l2s : 0 ≤ Y := by omega
        have l3s : Y < (N : Int) := by omega
        obtain ⟨d4, hd4⟩ : ∃ q, q = swp d2 I.toNat Y.toNat := ⟨_, rfl⟩
        obtain ⟨is, his⟩ : ∃ q, q = I.toNat := ⟨_, rfl⟩
        obtain ⟨js, hjs⟩ : ∃ q, q = Y.toNat := ⟨_, rfl⟩
        obtain ⟨xs, hxs⟩ : ∃ x, x = d2[I.toNat]! := ⟨_, rfl⟩
        obtain ⟨ys, hys⟩ : ∃ x, x = d2[Y.toNat]! := ⟨_, rfl⟩
        have SWs := rowN_swap HR.out I.toNat Y.toNat
        obtain ⟨qs, fs⟩ := rowN_at HR.out I (by omega) (by omega)
        obtain ⟨rs, gs⟩ := rowN_at HR.out Y (by omega) (by omega)
        obtain ⟨us, ss⟩ := rowN_second HR.out I Y (by omega) (by omega) (.int .i64 ys)
        rw [← hd4, ← hxs, ← hys, ← his, ← hjs] at SWs
        rw [← hxs, ← his] at qs
        rw [← hys, ← hjs] at rs
        rw [← his] at fs
        rw [← hjs] at gs
        rw [← his, ← hjs] at ss
        have eis : I.toNat = is := his.symm
        have ejs : Y.toNat = js := hjs.symm
        have HSWs := Aside0.mk SWs
        have Hd4 := Aside0.mk hd4
        clear SWs his hjs hxs hys hd4
        gi_wp2
        gi_region
        have HR3 := Aside0.mk (show RowN g cap base N d4 (((wc.setCell ⟨g, is, none⟩ (.int .i64 ys)).setCell ⟨g, js, none⟩ (.int .i64 xs)).drew) from HSWs.out)
        have HB3 := Aside0.mk (below_drew ((HB.out.setCell (p := ⟨g, is, none⟩) hbg (.int .i64 ys)).setCell (p := ⟨g, js, none⟩) hbg (.int .i64 xs)))
        have HX3 := Aside0.mk (show XBox w.heap.size X' ((wc.setCell ⟨g, is, none⟩ (.int .i64 ys)).setCell ⟨g, js, none⟩ (.int .i64 xs)).drew from ((Below.heap_setCell _ _ _ _ (by show w.heap.size ≠ g; omega)).trans (Below.heap_setCell _ _ _ _ (by show w.heap.size ≠ g; omega))).trans HX.out)
        clear qs fs rs gs ss eis ejs HSWs
        generalize ((wc.setCell ⟨g, is, none⟩ (.int .i64 ys)).setCell ⟨g, js, none⟩ (.int .i64 xs)).drew = W3 at HR3 HB3 HX3 ⊢
        have HI4 := Aside0.mk (show InR n d4 by rw [Hd4.out]; exact inR_swp HI2.out _ _ (by have := HS.out; omega) (by have := HS.out; omega))
        have HP4 := Aside0.mk (show PermIn A.toNat B.toNat d d4 by rw [Hd4.out]; exact permIn_swp HP.out (by have := HP.out.1; have := HS.out; omega) _ _ (by omega) (by have := HYY.out; omega))
        gi_wp2
        go_roundw
        case rel => exact ⟨I + 1, d4, X', by omega, by omega, rfl, HXL2, HP4, HI4, HX3, HR3, HB3⟩
        case measure => simp [intOf]; omega
    · have hc1 : ¬ I ≤ A + Q * 2 + 1 := by have := HII.out; omega
      gi_wp2
      go_end0
      exact ⟨⟨_, rfl⟩, d2, HP.out, HI2.out, HR.out, HB.out⟩
open Go.Sort (grow swp scanUp scanDown partLoop partition PermIn SortedIn SWO permIn_refl permIn_trans permIn_mono permIn_all swp_permIn insInner insOuter insertionSort insertionSort_holds heapSort_holds partition_holds partialInsertionSort_holds)
def InvS (lt : Int → Int → Bool) (N a b : Nat) (d : Array Int) : Prop := ∀ i j, i < j → j < N → (i < a ∨ b ≤ j) → lt d[j]! d[i]! = false
theorem inv_perm {lt : Int → Int → Bool} {N a b : Nat} {d d' : Array Int} (h : InvS lt N a b d) (hb : b ≤ N) (hN : d.size = N) (hp : PermIn a b d d') : InvS lt N a b d' := by
  intro i j hij hj hc
  by_cases hia : a ≤ i ∧ i < b
  · have hbj : b ≤ j := by omega
    rw [hp.2.1 j (by omega)]
    exact permIn_all d d' a b (fun x => lt d[j]! x = false) (by omega) hp (fun k hk1 hk2 => h k j (by omega) hj (.inr hbj)) i hia.1 hia.2
  · rw [hp.2.1 i (by omega)]
    by_cases hja : a ≤ j ∧ j < b
    · exact permIn_all d d' a b (fun x => lt x d[i]! = false) (by omega) hp (fun k hk1 hk2 => h i k (by omega) (by omega) (by omega)) j hja.1 hja.2
    · rw [hp.2.1 j (by omega)]
      exact h i j hij hj hc
theorem inv_done {lt : Int → Int → Bool} {N a b : Nat} {d : Array Int} (h : InvS lt N a b d) (hs : SortedIn lt a b d) : SortedIn lt 0 N d := by
  intro i j _ hij hj
  by_cases hc : i < a ∨ b ≤ j
  · exact h i j hij hj hc
  · exact hs i j (by omega) hij (by omega)
theorem inv_left {lt : Int → Int → Bool} (hS : SWO lt) {N a m b : Nat} {d d' : Array Int} (h : InvS lt N a b d) (ham : a ≤ m) (hmb : m < b) (hb : b ≤ N) (hN : d.size = N) (h1 : ∀ i, a ≤ i → i < m → lt d[i]! d[m]! = true) (h2 : ∀ i, m < i → i < b → lt d[i]! d[m]! = false) (hp : PermIn a m d d') (hs : SortedIn lt a m d') : InvS lt N (m + 1) b d' := by
  have h0 := inv_perm h hb hN (permIn_mono d d' a m a b (Nat.le_refl _) (by omega) (by omega) hp)
  have h1' : ∀ i, a ≤ i → i < m → lt d'[i]! d[m]! = true := permIn_all d d' a m (fun x => lt x d[m]! = true) (by omega) hp h1
  have hm : d'[m]! = d[m]! := hp.2.1 m (by omega)
  intro i j hij hj hc
  by_cases hc0 : i < a ∨ b ≤ j
  · exact h0 i j hij hj hc0
  · by_cases hjm : j < m
    · exact hs i j (by omega) hij hjm
    · by_cases hje : j = m
      · subst hje; rw [hm]; exact hS.asym (h1' i (by omega) (by omega))
      · have hjv := h2 j (by omega) (by omega)
        rw [hp.2.1 j (by omega)]
        by_cases him : i = m
        · subst him; rw [hm]; exact hjv
        · have hiv := h1' i (by omega) (by omega)
          cases hx : lt d[j]! d'[i]! with
          | false => rfl
          | true => have := hS.trans _ _ _ hx hiv; rw [hjv] at this; cases this
theorem inv_right {lt : Int → Int → Bool} (hS : SWO lt) {N a m b : Nat} {d d' : Array Int} (h : InvS lt N a b d) (ham : a ≤ m) (hmb : m < b) (hb : b ≤ N) (hN : d.size = N) (h1 : ∀ i, a ≤ i → i < m → lt d[i]! d[m]! = true) (h2 : ∀ i, m < i → i < b → lt d[i]! d[m]! = false) (hp : PermIn (m + 1) b d d') (hs : SortedIn lt (m + 1) b d') : InvS lt N a m d' := by
  have h0 := inv_perm h hb hN (permIn_mono d d' (m + 1) b a b (by omega) (Nat.le_refl _) (by omega) hp)
  have h2' : ∀ i, m + 1 ≤ i → i < b → lt d'[i]! d[m]! = false := permIn_all d d' (m + 1) b (fun x => lt x d[m]! = false) (by omega) hp (fun i hi hi2 => h2 i (by omega) hi2)
  have hm : d'[m]! = d[m]! := hp.2.1 m (by omega)
  intro i j hij hj hc
  by_cases hc0 : i < a ∨ b ≤ j
  · exact h0 i j hij hj hc0
  · by_cases hje : j = m
    · subst hje; rw [hm, hp.2.1 i (by omega)]; exact hS.asym (h1 i (by omega) (by omega))
    · have hjv := h2' j (by omega) (by omega)
      by_cases him : i = m
      · subst him; rw [hm]; exact hjv
      · by_cases hil : m < i
        · exact hs i j (by omega) hij (by omega)
        · have hiv := h1 i (by omega) (by omega)
          rw [hp.2.1 i (by omega)]
          cases hx : lt d'[j]! d[i]! with
          | false => rfl
          | true => have := hS.trans _ _ _ hx hiv; rw [hjv] at this; cases this
theorem toList_perm {d d' : Array Int} {N : Nat} (hN : d.size = N) (hp : PermIn 0 N d d') : d'.toList.Perm d.toList := by
  have h := hp.2.2
  have h1 : d.extract 0 N = d := by rw [← hN]; simp
  have h2 : d'.extract 0 N = d' := by rw [← hN, ← hp.1]; simp
  rwa [h1, h2] at h
theorem less_of {lt : Int → Int → Bool} (hT : ∀ x y, lt x y = false → lt y x = false → x = y) {d d' : Array Int} {N : Nat} (hN : d.size = N) (hnd : d.toList.Nodup) (hp : PermIn 0 N d d') {i j : Nat} (hij : i < j) (hj : j < N) (h : lt d'[j]! d'[i]! = false) : lt d'[i]! d'[j]! = true := by
  have hn := (toList_perm hN hp).nodup_iff.2 hnd
  have hs : d'.size = N := hp.1.trans hN
  cases hx : lt d'[i]! d'[j]! with
  | true => rfl
  | false =>
    have e := hT _ _ hx h
    have h1 : d'[i]! = d'.toList[i]'(by simpa [hs] using (by omega : i < N)) := by simp [Array.getElem!_eq_getD, Array.getD_eq_getD_getElem?, hs, show i < N by omega]
    have h2 : d'[j]! = d'.toList[j]'(by simpa [hs] using hj) := by simp [Array.getElem!_eq_getD, Array.getD_eq_getD_getElem?, hs, hj]
    rw [h1, h2] at e
    exact absurd e ((List.pairwise_iff_getElem.1 hn) i j _ _ hij)
theorem rd_toList (d : Array Int) (i : Nat) : rd d.toList (i : Int) = d[i]! := by
  unfold rd
  simp [List.getD_eq_getElem?_getD, Array.getElem!_eq_getD, Array.getD_eq_getD_getElem?]
theorem swapL_swp (d : Array Int) (j : Nat) : swapL d.toList j = (swp d (j + 1) j).toList := by
  unfold swapL swp
  have := rd_toList d (j + 1)
  rw [rd_toList, show ((j : Int) + 1) = ((j + 1 : Nat) : Int) by omega, this]
  simp
theorem insJ_inner (F : Int → Int → Int) (a : Nat) : ∀ (k : Nat) (d : Array Int), insJ F a k d.toList = (insInner (ltF F) a (a + k) d).toList
  | 0, d => by
    cases a with
    | zero => rfl
    | succ a => rw [Nat.add_zero, insInner, if_neg (by simp)]; rfl
  | k + 1, d => by
    rw [insJ, show a + (k + 1) = a + k + 1 by omega, insInner]
    have e1 : rd d.toList (((a + k : Nat) : Int) + 1) = d[a + k + 1]! := by rw [show ((a + k : Nat) : Int) + 1 = ((a + k + 1 : Nat) : Int) by omega, rd_toList]
    rw [e1, rd_toList]
    by_cases h : F d[a + k + 1]! d[a + k]! < 0
    · rw [if_pos h, if_pos (by simp [ltF, h]; omega), swapL_swp, insJ_inner F a k]
    · rw [if_neg h, if_neg (by simp [ltF]; omega)]
theorem insTo_outer (F : Int → Int → Int) (a m : Nat) (xs : List Int) : ∀ (q e : Nat) (d : Array Int), e + q = m → d.toList = insTo F a e xs → (insOuter (ltF F) a (a + m + 1) (a + 1 + e) d).toList = insTo F a m xs
  | 0, e, d, h, hd => by
    rw [insOuter, if_neg (by omega), hd, show e = m by omega]
  | q + 1, e, d, h, hd => by
    rw [insOuter, if_pos (by omega), show a + 1 + e + 1 = a + 1 + (e + 1) by omega]
    refine insTo_outer F a m xs q (e + 1) _ (by omega) ?_
    rw [insTo, ← hd, insJ_inner, show a + 1 + e = a + (e + 1) by omega]
theorem insTo_sort (F : Int → Int → Int) (a m : Nat) (d : Array Int) : insTo F a m d.toList = (insertionSort (ltF F) d a (a + m + 1)).toList :=
  (insTo_outer F a m d.toList m 0 d (by omega) rfl).symm
def SrtPost (g cap base N n : Nat) (lt : Int → Int → Bool) (d : Array Int) (A B : Int) (w : World) (e : Ending) (w' : World) : Prop :=
  (∃ v, e = .returned v) ∧ ∃ d', PermIn A.toNat B.toNat d d' ∧ SortedIn lt A.toNat B.toNat d' ∧ InR n d' ∧ RowN g cap base N d' w' ∧ Below base w w'
set_option maxHeartbeats 4000000 in
set_option maxRecDepth 100000 in
theorem insEmptyC (recv : Value) (n : Nat) (F : Int → Int → Int) (base g cap N : Nat) (d : Array Int) (A B : Int) (w : World) (hO : OrdB 37 recv n F base w) (hR : RowN g cap base N d w) (hin : InR n d) (h0 : 0 ≤ A) (h1 : B ≤ A + 1) (h3 : A ≤ (N : Int)) (hN : N ≤ 4096) :
    Calls Tryz.prog 89 #[.slice (some ⟨g, 0, none⟩) N cap, .int .i64 A, .int .i64 B, .func (.func 37) #[recv] #[]] w fun e w' => (∃ v, e = .returned v) ∧ w' = w := by
  clear hO hR hin
  go_enter Tryz.func89, Tryz.ntmps89
  go_wp2
  go_loopw [8, 9] (fun i _ wx => i = .int .i64 (A + 1) ∧ wx = w) (fun _ _ _ => 0)
  case atStart => exact ⟨rfl, rfl⟩
  case round =>
    obtain ⟨rfl, rfl⟩ := hrel
    have hn : ¬ A + 1 < B := by omega
    go_wp2
    go_end0
    exact ⟨⟨_, rfl⟩, rfl⟩
theorem insAC (recv : Value) (n : Nat) (F : Int → Int → Int) (base g cap N : Nat) (d : Array Int) (hS : SWO (ltF F)) (A B : Int) (w : World) (hO : OrdB 37 recv n F base w) (hR : RowN g cap base N d w) (hin : InR n d) (h0 : 0 ≤ A) (h1 : A ≤ B) (h3 : B ≤ (N : Int)) (hN : N ≤ 4096) :
    Calls Tryz.prog 89 #[.slice (some ⟨g, 0, none⟩) N cap, .int .i64 A, .int .i64 B, .func (.func 37) #[recv] #[]] w (SrtPost g cap base N n (ltF F) d A B w) := by
  by_cases hs : B ≤ A
  · refine (insEmptyC recv n F base g cap N d A B w hO hR hin h0 (by omega) (by omega) hN).mono ?_
    rintro e w' ⟨he, rfl⟩
    exact ⟨he, d, permIn_refl _ _ _, fun i j hi hij hj => by omega, hin, hR, Below.refl _ _⟩
  · have hsz : d.toList.length = N := by simp [hR.1]
    have hI := insC recv n F base g cap d.toList A.toNat (B.toNat - A.toNat - 1) w hO (by unfold Row; rw [hsz]; exact hR.2) (fun x hx => by
      obtain ⟨i, hi, rfl⟩ := List.mem_iff_getElem.1 hx
      have := hin i (by simpa using hi)
      simpa [Array.getElem!_eq_getD, Array.getD_eq_getD_getElem?, show i < d.size by simpa using hi] using this) (by omega) (by omega)
    rw [show ((A.toNat : Int) + ((B.toNat - A.toNat - 1 : Nat) : Int) + 1) = B by omega, show (A.toNat : Int) = A by omega, hsz] at hI
    refine hI.mono ?_
    rintro e w' ⟨he, hr, hb⟩
    have hi := insertionSort_holds hS d A.toNat B.toNat (by omega) (by rw [hR.1]; omega)
    rw [insTo_sort, show A.toNat + (B.toNat - A.toNat - 1) + 1 = B.toNat by omega] at hr
    refine ⟨he, _, hi.1, hi.2, inR_perm hin _ _ (by rw [hR.1]; omega) hi.1, ⟨hi.1.1.trans hR.1, ?_⟩, hb⟩
    unfold Row at hr
    have hl : (insertionSort (ltF F) d A.toNat B.toNat).toList.length = N := by rw [Array.length_toList, hi.1.1, hR.1]
    rw [hl] at hr
    exact hr
set_option maxHeartbeats 4000000 in
set_option maxRecDepth 100000 in
theorem pdqSmallC (recv : Value) (n : Nat) (F : Int → Int → Int) (base g cap N : Nat) (d : Array Int) (hS : SWO (ltF F)) (A B L : Int) (w : World) (hO : OrdB 37 recv n F base w) (hR : RowN g cap base N d w) (hin : InR n d) (h0 : 0 ≤ A) (h1 : A ≤ B) (h2 : B ≤ A + 12) (h3 : B ≤ (N : Int)) (hN : N ≤ 4096) :
    Calls Tryz.prog 78 #[.slice (some ⟨g, 0, none⟩) N cap, .int .i64 A, .int .i64 B, .int .i64 L, .func (.func 37) #[recv] #[]] w (SrtPost g cap base N n (ltF F) d A B w) := by
  have HI := Aside0.mk (insAC recv n F base g cap N d hS A B w hO hR hin h0 h1 h3 hN)
  clear hO hR hin
  have hle : B - A ≤ 12 := by omega
  go_enter Tryz.func78, Tryz.ntmps78
  go_wp2
  go_loopw [1, 2, 3] (fun a b l wx => a = .int .i64 A ∧ b = .int .i64 B ∧ l = .int .i64 L ∧ wx = w) (fun _ _ _ _ => 0)
  case atStart => exact ⟨rfl, rfl, rfl, rfl⟩
  case round =>
    obtain ⟨rfl, rfl, rfl, rfl⟩ := hrel
    go_wp2_with fail
    refine HI.out.mono ?_
    rintro e w1 ⟨⟨v, rfl⟩, hp⟩
    have HP := Aside0.mk hp
    clear hp
    go_wp2
    exact bodyPost_ret (results_none rfl _ _ _) rfl ⟨⟨_, rfl⟩, HP.out⟩
set_option maxHeartbeats 4000000 in
set_option maxRecDepth 100000 in
theorem pdqBigC (recv : Value) (n : Nat) (F : Int → Int → Int) (base g cap N : Nat) (d : Array Int) (hS : SWO (ltF F)) (hT : ∀ x y, ltF F x y = false → ltF F y x = false → x = y) (hnd : d.toList.Nodup) (L : Int) (w : World) (hO : OrdB 37 recv n F base w) (hR : RowN g cap base N d w) (hin : InR n d) (hL0 : 0 ≤ L) (hL1 : L ≤ 100) (hN : N ≤ 25) :
    Calls Tryz.prog 78 #[.slice (some ⟨g, 0, none⟩) N cap, .int .i64 0, .int .i64 N, .int .i64 L, .func (.func 37) #[recv] #[]] w (SrtPost g cap base N n (ltF F) d 0 N w) := by
  have hbg := rowN_base hR
  have hbs : base ≤ w.heap.size := Nat.le_of_lt (Nat.lt_of_le_of_lt hbg (rowN_lt hR))
  have HR := Aside0.mk hR
  have HO := Aside0.mk hO
  have HIN := Aside0.mk hin
  have HS := Aside0.mk hR.1
  have HB := Aside0.mk (Below.refl base w)
  have HSW := Aside0.mk hS
  have HTT := Aside0.mk hT
  have HND := Aside0.mk hnd
  clear hO hR hin hS hT hnd
  refine callsIn_wide (n := 0).1 ?_
  refine callsIn_of_wp Tryz.func78 rfl trivial ?_ rfl
  simp only [Tryz.ntmps78, List.size_toArray, List.length_cons, List.length_nil, Nat.reduceAdd, Nat.reduceSub, Array.replicate_succ, Array.replicate_zero, List.push_toArray, List.append_toArray, List.nil_append, List.cons_append]
  gi_wp2
  gi_loopw [1, 2, 3, 10, 11] (fun a b l wb wp wx => ∃ (A B L : Int) (b1 b2 : Bool) (d2 : Array Int), (0 ≤ A ∧ A ≤ B ∧ B ≤ (N : Int) ∧ 0 ≤ L ∧ L ≤ 100) ∧ a = .int .i64 A ∧ b = .int .i64 B ∧ l = .int .i64 L ∧ wb = .bool b1 ∧ wp = .bool b2 ∧ Aside0 (PermIn 0 N d d2) ∧ Aside0 (InvS (ltF F) N A.toNat B.toNat d2) ∧ Aside0 (InR n d2) ∧ Aside0 (RowN g cap base N d2 wx) ∧ Aside0 (Below base w wx)) (fun a b _ _ _ _ => (intOf b - intOf a).toNat)
  case atStart => exact ⟨0, N, L, true, true, d, ⟨by omega, by omega, by omega, hL0, hL1⟩, rfl, rfl, rfl, rfl, rfl, ⟨permIn_refl _ _ _⟩, ⟨fun i j hij hj hc => by omega⟩, HIN, HR, HB⟩
  case round =>
    clear HB HR HIN
    clear hL0 hL1 L
    obtain ⟨A, B, L, b1, b2, d2, ⟨hA0, hAB, hBN, hL0, hL1⟩, rfl, rfl, rfl, rfl, rfl, HPM, HIV, HI2, HR, HB⟩ := hrel
    have HS2 := Aside0.mk HR.out.1
    by_cases hsm : B - A ≤ 12
    · have HC := Aside0.mk ((callsIn_wide (n := 0)).2 (insAC recv n F base g cap N d2 HSW.out A B wr (HO.out.move HB.out) HR.out HI2.out hA0 hAB hBN (by omega)))
      gi_wp2
      refine ⟨trivial, rfl, HC.out.mono ?_⟩
      rintro e w1 ⟨⟨v, rfl⟩, d', hp, hs, hi, hr, hb⟩
      have HF := Aside0.mk (show SrtPost g cap base N n (ltF F) d 0 N w (.returned v) w1 from ⟨⟨_, rfl⟩, d', permIn_trans _ _ _ _ _ HPM.out (permIn_mono _ _ _ _ _ _ (by omega) (by omega) (by have := HS2.out; omega) hp), inv_done (inv_perm HIV.out (by omega) HS2.out hp) hs, hi, hr, HB.out.trans hb⟩)
      clear hp hs hi hr hb HC
      gi_wp2
      exact bodyPost_ret (results_none rfl _ _ _) rfl ⟨⟨_, rfl⟩, HF.out.2⟩
    · by_cases hlz : L = 0
      · subst hlz
        have HC := Aside0.mk ((callsIn_wide (n := 0)).2 (heapC recv n F base g cap N d2 A B wr (HO.out.move HB.out) HR.out HI2.out hA0 (by omega) hBN (by omega)))
        gi_wp2
        refine ⟨trivial, rfl, HC.out.mono ?_⟩
        rintro e w1 ⟨⟨v, rfl⟩, hr, hb⟩
        have hh := heapSort_holds HSW.out d2 A.toNat B.toNat (by omega) (by have := HS2.out; omega)
        have HF := Aside0.mk (show SrtPost g cap base N n (ltF F) d 0 N w (.returned v) w1 from ⟨⟨_, rfl⟩, _, permIn_trans _ _ _ _ _ HPM.out (permIn_mono _ _ _ _ _ _ (by omega) (by omega) (by have := HS2.out; omega) hh.1), inv_done (inv_perm HIV.out (by omega) HS2.out hh.1) hh.2, inR_perm HI2.out _ _ (by have := HS2.out; omega) hh.1, hr, HB.out.trans hb⟩)
        clear hr hb hh HC
        gi_wp2
        exact bodyPost_ret (results_none rfl _ _ _) rfl ⟨⟨_, rfl⟩, HF.out.2⟩
      · have hL2 : 1 ≤ L := by omega
        have hlen : 13 ≤ B - A := by omega
        clear hlz hsm
        gi_upto_if 39 with (fail)
        gi_cut [3] from 18 (fun s wx => ∃ (L2 : Int) (d3 : Array Int), s = .int .i64 L2 ∧ 0 ≤ L2 ∧ L2 ≤ 100 ∧ Aside0 (PermIn A.toNat B.toNat d2 d3) ∧ Aside0 (InR n d3) ∧ Aside0 (RowN g cap base N d3 wx) ∧ Aside0 (Below base w wx))
        case first =>
          have HC := Aside0.mk ((callsIn_wide (n := 0)).2 (brkC recv n F base g cap N d2 A B wr (HO.out.move HB.out) HR.out HI2.out hA0 (by omega) hBN (by omega)))
          cases b1 with
          | true =>
            gi_wp2
            gi_meet
            case rel => exact ⟨L, d2, rfl, hL0, hL1, ⟨permIn_refl _ _ _⟩, HI2, HR, HB⟩
          | false =>
            gi_wp2
            refine ⟨trivial, rfl, HC.out.mono ?_⟩
            rintro e w1 ⟨⟨v, rfl⟩, d', hp, hi, hr, hb⟩
            have H1 := Aside0.mk hp
            have H2 := Aside0.mk hi
            have H3 := Aside0.mk hr
            have H4 := Aside0.mk (HB.out.trans hb)
            clear hp hi hr hb HC
            gi_wp2
            gi_meet
            case rel => exact ⟨L - 1, d', rfl, by omega, by omega, H1, H2, H3, H4⟩
        case rest =>
          clear HR HB HI2 hL0 hL1 hL2
          obtain ⟨L2, d3, rfl, hL20, hL21, HP3, HI3, HR, HB⟩ := hcut
          have HPM3 := Aside0.mk (permIn_trans _ _ _ _ _ HPM.out (permIn_mono _ _ _ _ 0 N (by omega) (by omega) (by have := HS2.out; omega) HP3.out))
          have HIV3 := Aside0.mk (inv_perm HIV.out (by omega) HS2.out HP3.out)
          have HS3 := Aside0.mk HR.out.1
          clear HPM HIV HP3 HS2
          have HC := Aside0.mk ((callsIn_wide (n := 0)).2 (pivC recv n F base g cap N d3 A B wc (HO.out.move HB.out) HR.out HI3.out hA0 (by omega) (by omega) hBN (by omega)))
          gi_wp2
          refine ⟨trivial, rfl, HC.out.mono ?_⟩
          rintro e w1 ⟨p, h, rfl, hp0, hp1, hh, hr, hb⟩
          have HR1 := Aside0.mk hr
          have HB1 := Aside0.mk (HB.out.trans hb)
          have hh2 : ¬ h = 2 := by omega
          clear hr hb HC HR HB hh
          gi_upto_region 15 with (fail)
          gi_cut [75] from 18 (fun s wx => ∃ c : Bool, s = .bool c ∧ Aside0 (RowN g cap base N d3 wx) ∧ Aside0 (Below base w wx))
          case first =>
            cases b1 <;> cases b2 <;> by_cases h1 : h = 1
            all_goals
              gi_wp2
              gi_meet
              case rel => exact ⟨_, rfl, HR1, HB1⟩
          case rest =>
            clear HR1 HB1
            obtain ⟨c, rfl, HR, HB⟩ := hcut
            gi_upto_if 75 with (fail)
            gi_cut [] from 18 (fun wx => Aside0 (RowN g cap base N d3 wx) ∧ Aside0 (Below base w wx))
            case first =>
              have HC := Aside0.mk ((callsIn_wide (n := 0)).2 (pisC recv n F base g cap N d3 A B wc (HO.out.move HB.out) HR.out HI3.out hA0 (by omega) (by omega) hBN (by omega)))
              cases c with
              | true =>
                gi_wp2
                refine ⟨trivial, rfl, HC.out.mono ?_⟩
                rintro e w2 ⟨r, rfl, hpi, hr, hb⟩
                have HR2 := Aside0.mk hr
                have HB2 := Aside0.mk (HB.out.trans hb)
                have HPI := Aside0.mk hpi
                clear hr hb hpi HC
                cases r with
                | true =>
                  have hst : SortedIn (ltF F) A.toNat B.toNat d3 := by
                    have h := (partialInsertionSort_holds HSW.out d3 A.toNat B.toNat (by omega) (by have := HS3.out; omega) (by
                      by_cases hz : A.toNat = 0
                      · exact .inl hz
                      · exact .inr fun i hi1 hi2 => HIV3.out (A.toNat - 1) i (by omega) (by omega) (.inl (by omega)))).2
                    rw [HPI.out] at h
                    exact h rfl
                  have HF := Aside0.mk (show SrtPost g cap base N n (ltF F) d 0 N w (.returned (.tuple #[])) w2 from ⟨⟨_, rfl⟩, d3, HPM3.out, inv_done HIV3.out hst, HI3.out, HR2.out, HB2.out⟩)
                  clear hst
                  gi_wp2
                  exact bodyPost_ret (results_none rfl _ _ _) rfl ⟨⟨_, rfl⟩, HF.out.2⟩
                | false =>
                  gi_wp2
                  gi_meet
                  case rel => exact ⟨HR2, HB2⟩
              | false =>
                gi_wp2
                gi_meet
                case rel => exact ⟨HR, HB⟩
            case rest =>
              clear HR HB
              obtain ⟨HR, HB⟩ := hcut
              gi_upto_region 17 with (fail)
              gi_cut [97] from 18 (fun s wx => s = .bool false ∧ Aside0 (RowN g cap base N d3 wx) ∧ Aside0 (Below base w wx))
              case first =>
                by_cases hle : 0 < A
                · have hgd := decide_eq_true hle
                  obtain ⟨J, hJ⟩ : ∃ J : Int, J = A - 1 := ⟨_, rfl⟩
                  have eJ : IntKind.i64.wrap (A - 1) = J := by rw [hJ]; exact wrap_i64' (by omega) (by omega)
                  have HJ := Aside0.mk hJ
                  have HL := Aside0.mk (show ltF F d3[J.toNat]! d3[p.toNat]! = true from less_of HTT.out HS.out HND.out HPM3.out (by omega) (by omega) (HIV3.out _ _ (by omega) (by omega) (.inl (by omega))))
                  have hJ0 : 0 ≤ J := by omega
                  have hJ1 : J < B := by omega
                  clear hJ
                  have l0a : 0 ≤ J := by omega
                  have l1a : J < (N : Int) := by omega
                  have l2a : 0 ≤ p := by omega
                  have l3a : p < (N : Int) := by omega
                  obtain ⟨xa, hxa⟩ : ∃ x, x = d3[J.toNat]! := ⟨_, rfl⟩
                  obtain ⟨ya, hya⟩ : ∃ x, x = d3[p.toNat]! := ⟨_, rfl⟩
                  have qa := cell_regrown (rowN_at HR.out J (by omega) (by omega)).1
                  have ra := cell_regrown (rowN_at HR.out p (by omega) (by omega)).1
                  have cFa := cmpAt HO.out HB.out hbs (inR_at HI3.out HS3.out J (by omega) (by omega)) (inR_at HI3.out HS3.out p (by omega) (by omega))
                  rw [← hxa] at qa cFa
                  rw [← hya] at ra cFa
                  have HXa := Aside0.mk hxa
                  have HYa := Aside0.mk hya
                  clear hxa hya
                  have hF : decide (F xa ya < 0) = true := by rw [HXa.out, HYa.out]; exact HL.out
                  gi_wp2
                  refine region_quiet_below (by kernel_rfl) (by kernel_rfl) (by kernel_rfl) ?_
                  repeat (refine wpQuietIn_step (fun _ _ _ _ => trivial) (fun K hK => ?_); go_simp; first | (refine hK _ ?_; clear hK K) | (apply Exists.intro; refine ⟨fun _ => ?_, hK _ ?_⟩; (exact ⟨rfl, cFa _ _⟩); clear hK K))
                  refine wpQuietIn_nil ?_
                  intro _ hw'
                  obtain ⟨⟨dq, osq⟩, hw''⟩ := hw'
                  subst hw''
                  have HRc := Aside0.mk (rowN_below HR.out (below_regrown wc dq osq))
                  have HBc := Aside0.mk (HB.out.trans ((below_regrown wc dq osq).mono (Nat.le_trans hbs HB.out.size)))
                  clear qa ra cFa
                  generalize grow (redrawn wc dq) osq = W2 at HRc HBc ⊢
                  gi_wp2
                  gi_meet
                  case rel => exact ⟨by simp [of_decide_eq_true hF], HRc, HBc⟩
                · have hgd : decide (0 < A) = false := decide_eq_false hle
                  gi_wp2
                  refine region_quiet_below (by kernel_rfl) (by kernel_rfl) (by kernel_rfl) ?_
                  repeat (refine wpQuietIn_step (fun _ _ _ _ => trivial) (fun K hK => ?_); go_simp; first | (refine hK _ ?_; clear hK K))
                  refine wpQuietIn_nil ?_
                  intro _ hw'
                  obtain ⟨⟨dq, osq⟩, hw''⟩ := hw'
                  subst hw''
                  have HRc := Aside0.mk (rowN_below HR.out (below_regrown wc dq osq))
                  have HBc := Aside0.mk (HB.out.trans ((below_regrown wc dq osq).mono (Nat.le_trans hbs HB.out.size)))
                  generalize grow (redrawn wc dq) osq = W2 at HRc HBc ⊢
                  gi_wp2
                  gi_meet
                  case rel => exact ⟨rfl, HRc, HBc⟩
              case rest =>
                clear HR HB
                obtain ⟨rfl, HR, HB⟩ := hcut
                have HC := Aside0.mk ((callsIn_wide (n := 0)).2 (partC recv n F base g cap N d3 A B p wc (HO.out.move HB.out) HR.out HI3.out hA0 hp0 hp1 hBN (by omega)))
                gi_wp2
                refine ⟨trivial, rfl, HC.out.mono ?_⟩
                rintro e w2 ⟨rfl, hr, hb⟩
                have hpt := partition_holds (ltF F) HSW.out d3 A.toNat B.toNat p.toNat (by omega) (by omega) (by have := HS3.out; omega)
                generalize Go.Sort.partition (ltF F) d3 A.toNat B.toNat p.toNat = T at hpt hr ⊢
                obtain ⟨m, b3, d4⟩ := T
                dsimp only at hpt hr ⊢
                obtain ⟨hm0, hm1, hpm, hpl, hpr⟩ := hpt
                have HR4 := Aside0.mk hr
                have HB4 := Aside0.mk (HB.out.trans hb)
                have HS4 := Aside0.mk hr.1
                have HI4 := Aside0.mk (inR_perm HI3.out _ _ (by have := HS3.out; omega) hpm)
                have HIV4 := Aside0.mk (inv_perm HIV3.out (by omega) HS3.out hpm)
                have HPM4 := Aside0.mk (permIn_trans _ _ _ _ _ HPM3.out (permIn_mono _ _ _ _ 0 N (by omega) (by omega) (by have := HS3.out; omega) hpm))
                have HPL := Aside0.mk hpl
                have HPR := Aside0.mk hpr
                have hmA : A ≤ (m : Int) := by omega
                have hmB : (m : Int) < B := by omega
                clear hr hb hpm hpl hpr hm0 hm1 HC HR HB HPM3 HIV3 HI3
                by_cases hlr : (m : Int) - A < B - (m : Int)
                · have HC := Aside0.mk ((callsIn_wide (n := 0)).2 (pdqSmallC recv n F base g cap N d4 HSW.out A m L2 w2 (HO.out.move HB4.out) HR4.out HI4.out hA0 hmA (by omega) (by omega) (by omega)))
                  gi_wp2
                  refine ⟨trivial, rfl, HC.out.mono ?_⟩
                  rintro e w3 ⟨⟨v, rfl⟩, d5, hp5, hs5, hi5, hr5, hb5⟩
                  rw [Int.toNat_natCast] at hp5 hs5
                  have H1 := Aside0.mk (permIn_trans _ _ _ _ _ HPM4.out (permIn_mono _ _ _ _ 0 N (by omega) (by omega) (by have := HS4.out; omega) hp5))
                  have H2 := Aside0.mk (show InvS (ltF F) N ((m : Int) + 1).toNat B.toNat d5 by rw [show ((m : Int) + 1).toNat = m + 1 by omega]; exact inv_left HSW.out HIV4.out (by omega) (by omega) (by omega) HS4.out HPL.out HPR.out hp5 hs5)
                  have H3 := Aside0.mk hi5
                  have H4 := Aside0.mk hr5
                  have H5 := Aside0.mk (HB4.out.trans hb5)
                  clear hp5 hs5 hi5 hr5 hb5 HC
                  gi_wp2
                  go_roundw
                  case rel => exact ⟨(m : Int) + 1, B, L2, _, _, d5, ⟨by omega, by omega, by omega, by omega, by omega⟩, rfl, rfl, rfl, rfl, rfl, H1, H2, H3, H4, H5⟩
                  case measure => simp [intOf]; omega
                · have HC := Aside0.mk ((callsIn_wide (n := 0)).2 (pdqSmallC recv n F base g cap N d4 HSW.out ((m : Int) + 1) B L2 w2 (HO.out.move HB4.out) HR4.out HI4.out (by omega) (by omega) (by omega) (by omega) (by omega)))
                  gi_wp2
                  refine ⟨trivial, rfl, HC.out.mono ?_⟩
                  rintro e w3 ⟨⟨v, rfl⟩, d5, hp5, hs5, hi5, hr5, hb5⟩
                  rw [show ((m : Int) + 1).toNat = m + 1 by omega] at hp5 hs5
                  have H1 := Aside0.mk (permIn_trans _ _ _ _ _ HPM4.out (permIn_mono _ _ _ _ 0 N (by omega) (by omega) (by have := HS4.out; omega) hp5))
                  have H2 := Aside0.mk (show InvS (ltF F) N A.toNat ((m : Int)).toNat d5 by rw [Int.toNat_natCast]; exact inv_right HSW.out HIV4.out (by omega) (by omega) (by omega) HS4.out HPL.out HPR.out hp5 hs5)
                  have H3 := Aside0.mk hi5
                  have H4 := Aside0.mk hr5
                  have H5 := Aside0.mk (HB4.out.trans hb5)
                  clear hp5 hs5 hi5 hr5 hb5 HC
                  gi_wp2
                  go_roundw
                  case rel => exact ⟨A, (m : Int), L2, _, _, d5, ⟨by omega, by omega, by omega, by omega, by omega⟩, rfl, rfl, rfl, rfl, rfl, H1, H2, H3, H4, H5⟩
                  case measure => simp [intOf]; omega
def sortF (F : Int → Int → Int) (xs : List Int) : List Int := if xs.length ≤ 12 then insTo F 0 (xs.length - 1) xs else xs.mergeSort fun x y => !ltF F y x
structure SortOk (F : Int → Int → Int) (xs : List Int) : Prop where
  few : xs.length ≤ 25
  big : 12 < xs.length → Go.Sort.SWO (ltF F) ∧ (∀ x y, ltF F x y = false → ltF F y x = false → x = y) ∧ xs.Nodup
theorem bitLenAux_le : ∀ f x, Lib.bitLenAux f x ≤ f
  | 0, _ => by simp [Lib.bitLenAux]
  | f + 1, x => by
    unfold Lib.bitLenAux
    split
    · omega
    · have := bitLenAux_le f (x / 2); omega
theorem insJ_length (F : Int → Int → Int) (a : Nat) : ∀ k xs, (insJ F a k xs).length = xs.length
  | 0, xs => rfl
  | k + 1, xs => by
    unfold insJ
    split
    · rw [insJ_length F a k, swapL_length]
    · rfl
theorem insTo_length (F : Int → Int → Int) (a : Nat) : ∀ d xs, (insTo F a d xs).length = xs.length
  | 0, xs => rfl
  | d + 1, xs => by unfold insTo; rw [insJ_length, insTo_length F a d]
set_option maxHeartbeats 1000000 in
set_option maxRecDepth 100000 in
theorem pdqC (recv : Value) (n : Nat) (F : Int → Int → Int) (base g cap : Nat) (xs : List Int) (lim : Int) (w : World) (hO : OrdB 37 recv n F base w) (hR : Row g cap base xs w) (hin : ∀ x ∈ xs, 0 ≤ x ∧ x < (n : Int)) (h1 : 1 ≤ xs.length) (h2 : xs.length ≤ 12) :
    Calls Tryz.prog 78 #[.slice (some ⟨g, 0, none⟩) xs.length cap, .int .i64 0, .int .i64 xs.length, .int .i64 lim, .func (.func 37) #[recv] #[]] w fun e w' => (∃ v, e = .returned v) ∧ Row g cap base (insTo F 0 (xs.length - 1) xs) w' ∧ Below base w w' := by
  have hI := insC recv n F base g cap xs 0 (xs.length - 1) w hO hR hin (by omega) (by omega)
  rw [show (((0 : Nat) : Int) + ((xs.length - 1 : Nat) : Int) + 1) = (xs.length : Int) by omega, show ((0 : Nat) : Int) = 0 from rfl] at hI
  have HI := Aside0.mk hI
  clear hO hR hin hI
  go_enter Tryz.func78, Tryz.ntmps78
  go_wp2
  go_loopw [1, 2, 3] (fun a b _ wr => a = .int .i64 0 ∧ b = .int .i64 xs.length ∧ wr = w) (fun _ _ _ _ => 0)
  case atStart => exact ⟨rfl, rfl, rfl⟩
  case round =>
    obtain ⟨rfl, rfl, rfl⟩ := hrel
    go_wp2_with fail
    refine HI.out.mono ?_
    rintro e w1 ⟨⟨v, rfl⟩, hr, hb⟩
    have HR := Aside0.mk hr
    have HB := Aside0.mk hb
    clear hr hb
    go_wp2
    exact bodyPost_ret (results_none rfl _ _ _) rfl ⟨⟨_, rfl⟩, HR.out, HB.out⟩
theorem pdqAnyC (recv : Value) (n : Nat) (F : Int → Int → Int) (base g cap : Nat) (xs : List Int) (lim : Int) (w : World) (hO : OrdB 37 recv n F base w) (hR : Row g cap base xs w) (hin : ∀ x ∈ xs, 0 ≤ x ∧ x < (n : Int)) (h1 : 1 ≤ xs.length) (h2 : SortOk F xs) (hl0 : 0 ≤ lim) (hl1 : lim ≤ 100) :
    Calls Tryz.prog 78 #[.slice (some ⟨g, 0, none⟩) xs.length cap, .int .i64 0, .int .i64 xs.length, .int .i64 lim, .func (.func 37) #[recv] #[]] w fun e w' => (∃ v, e = .returned v) ∧ Row g cap base (sortF F xs) w' ∧ Below base w w' := by
  by_cases h12 : xs.length ≤ 12
  · have h := pdqC recv n F base g cap xs lim w hO hR hin h1 h12
    unfold sortF
    rw [if_pos h12]
    exact h
  · obtain ⟨hS, hT, hnd⟩ := h2.big (by omega)
    refine (pdqBigC recv n F base g cap xs.length xs.toArray hS hT (by simpa using hnd) lim w hO ⟨by simp, hR⟩ (fun i hi => ?_) hl0 hl1 h2.few).mono ?_
    · have hi' : i < xs.length := by simpa using hi
      have := hin _ (List.getElem_mem hi')
      simpa [Array.getElem!_eq_getD, Array.getD_eq_getD_getElem?, hi'] using this
    · rintro e w' ⟨he, d', hp, hs, _, hr, hb⟩
      have hu := Go.Sort.sorted_unique_holds hS hT xs.toArray d' (by simpa using hp) (by simpa using hs)
      refine ⟨he, ?_, hb⟩
      unfold sortF
      rw [if_neg h12]
      have e1 : (xs.mergeSort fun x y => !ltF F y x) = d'.toList := by rw [hu]
      rw [e1]
      unfold Row
      have e2 : d'.toList.length = xs.length := by rw [Array.length_toList, hr.1]
      rw [e2]
      exact hr.2
set_option maxHeartbeats 1000000 in
set_option maxRecDepth 100000 in
theorem sortFuncC (recv : Value) (n : Nat) (F : Int → Int → Int) (base g cap : Nat) (xs : List Int) (w : World) (hO : OrdB 37 recv n F base w) (hR : Row g cap base xs w) (hin : ∀ x ∈ xs, 0 ≤ x ∧ x < (n : Int)) (h1 : 1 ≤ xs.length) (h2 : SortOk F xs) :
    Calls Tryz.prog 60 #[.slice (some ⟨g, 0, none⟩) xs.length cap, .func (.func 37) #[recv] #[]] w fun e w' => (∃ v, e = .returned v) ∧ Row g cap base (sortF F xs) w' ∧ Below base w w' := by
  have hfew := h2.few
  have hbs : base ≤ w.heap.size := Nat.le_of_lt (Nat.lt_of_le_of_lt (own_base hR g rfl) (own_lt hR g rfl))
  have hw : IntKind.u64.wrap (xs.length : Int) = xs.length := IntWalk.u64_in (xs.length : Int) (by omega)
  have HL := Aside0.mk (fun W => bits_Len.calls (xs.length : Int) _ W (show bits_Len.f (xs.length : Int) = _ by unfold bits_Len.f; rw [if_pos (by omega)]))
  have hlim : ((Lib.bitLen (xs.length : Int).toNat : Nat) : Int) ≤ 100 := by have := bitLenAux_le 64 (xs.length : Int).toNat; unfold Lib.bitLen; omega
  have HP := Aside0.mk (fun W (hW : Below base w W) (hr : Row g cap base xs W) => pdqAnyC recv n F base g cap xs ((Lib.bitLen (xs.length : Int).toNat : Nat) : Int) W (hO.move hW) hr hin h1 h2 (by omega) hlim)
  clear hlim
  have HR := Aside0.mk hR
  clear hO hR hin
  go_enter Tryz.func60, Tryz.ntmps60
  go_wp2_with fail
  refine (HL.out _).mono ?_
  rintro e w1 ⟨rfl, hd⟩
  have HB1 := Aside0.mk (hd.below.mono hbs)
  have HR1 := Aside0.mk (show Row g cap base xs w1 from pw_own_below HR.out hd.below)
  clear hd HL
  go_wp2_with fail
  refine (HP.out _ HB1.out HR1.out).mono ?_
  rintro e w2 ⟨⟨v, rfl⟩, hr, hb⟩
  have HR2 := Aside0.mk hr
  have HB2 := Aside0.mk (HB1.out.trans hb)
  clear hr hb
  go_wp2
  go_end0
  exact ⟨⟨_, rfl⟩, HR2.out, HB2.out⟩
set_option maxHeartbeats 1000000 in
set_option maxRecDepth 100000 in
theorem sortedF (recv : Value) (n : Nat) (F : Int → Int → Int) (A : Option Addr) (c : Nat) (xs : List Int) (w : World) (hO : OrdB 37 recv n F w.heap.size w) (hx : Kd.C (Kd.int .i64) w A xs.length xs) (hc : xs.length ≤ c) (hin : ∀ x ∈ xs, 0 ≤ x ∧ x < (n : Int)) (h1 : 1 ≤ xs.length) (h2 : SortOk F xs) :
    Calls Tryz.prog 36 #[.slice A xs.length c, .func (.func 37) #[recv] #[]] w fun e w' => ∃ g cap, e = .returned (.slice (some ⟨g, 0, none⟩) xs.length cap) ∧ Row g cap w.heap.size (sortF F xs) w' ∧ Below w.heap.size w w' := by
  have hfew := h2.few
  have HC := Aside0.mk (slices_Clone_int_int.calls A c xs xs w hx hc (by unfold slices_Clone_int_int.f; rw [if_pos (by omega)]))
  have HS := Aside0.mk (fun W g cap (hW : Below w.heap.size w W) (hr : Row g cap w.heap.size xs W) => sortFuncC recv n F w.heap.size g cap xs W (hO.move hW) hr hin h1 h2)
  clear hO hx hin
  go_enter Tryz.func36, Tryz.ntmps36
  go_wp2_with fail
  refine HC.out.mono ?_
  rintro e w1 ⟨v1, rfl, hR, hb⟩
  have ho := Kd.own_of_R hR
  obtain ⟨g, cap, hv⟩ : ∃ g cap, v1 = .slice (some ⟨g, 0, none⟩) xs.length cap := by
    rcases ho.2 with ⟨_, h0⟩ | ⟨g', cap', cur, rfl, hbase, hb, h1, h2, h3, h4⟩
    · omega
    · exact ⟨_, _, rfl⟩
  subst hv
  have HB := Aside0.mk hb
  have HR := Aside0.mk (show Row g cap w.heap.size xs w1 from ho)
  clear hR hb ho HC
  go_wp2_with fail
  refine (HS.out _ _ _ HB.out HR.out).mono ?_
  rintro e w2 ⟨⟨v, rfl⟩, hr, hb⟩
  have HR2 := Aside0.mk hr
  have HB2 := Aside0.mk (HB.out.trans hb)
  clear hr hb
  go_wp2
  go_ret
  exact ⟨_, _, rfl, HR2.out, HB2.out⟩
end Go.Proofs.YthbkomkgciemiaaGreat.PKF
