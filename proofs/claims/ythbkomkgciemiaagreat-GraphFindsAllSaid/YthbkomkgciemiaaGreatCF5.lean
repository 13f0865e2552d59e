/- Texts of this claim, merged: part 5. -/
import Derived.Test.YthbkomkgciemiaaGreatCF4
import Derived.Test.YthbkomkgciemiaaGreatCF3
import Derived.StillTailTactics
namespace Go.Proofs.YthbkomkgciemiaaGreat.PKF
open Go.Proofs.YthbkomkgciemiaaGreat.RF
open Go.RowKit Go.Proofs.YthbkomkgciemiaaGreatW.PrintWords Go.Proofs.YthbkomkgciemiaaGreatW.PrintLast Go.Proofs.YthbkomkgciemiaaGreatW.PrintMore
attribute [local go_sem] max2_int min2_int max_two min_two max_three min_three max_four min_four
set_option linter.unusedVariables false
set_option linter.unusedSimpArgs false
abbrev Hd := S61
def searchV (m : Int) (A1 : Option Addr) (n1 c1 : Nat) (A2 : Option Addr) (n2 c2 : Nat) (A4 : Option Addr) (n4 c4 : Nat) : Value := .agg #[.int .i64 m, .slice A1 n1 c1, .slice A2 n2 c2, .slice A4 n4 c4]
def ValidAt (n : Int) (g : List Hd) (b : Bool) : Prop := ∃ k, graph_Valid.f k n g = some b
set_option maxHeartbeats 1000000 in
set_option maxRecDepth 100000 in
theorem beginNo1 (m : Int) (A1 : Option Addr) (c1 : Nat) (l : List (List Int)) (A2 : Option Addr) (c2 : Nat) (g : List Hd) (A3 : Option Addr) (c3 : Nat) (v : List Int) (from_ : Int) (w : World) (hr1 : Kd.C (Kd.slice 3 (Kd.int .i64)) w A1 l.length l) (hc1 : l.length ≤ c1) (hr2 : Kd.C k61 w A2 g.length g) (hc2 : g.length ≤ c2) (hr3 : Kd.C (Kd.int .i64) w A3 v.length v) (hc3 : v.length ≤ c3) (h1 : rightF m l = false) :
    Calls Tryz.prog 30 #[.int .i64 m, .slice A1 l.length c1, .agg #[.slice A2 g.length c2], .slice A3 v.length c3, .int .i64 from_] w fun e w' => e = .returned (.tuple #[searchV m A1 l.length c1 A2 g.length c2 none 0 0, .bool false]) ∧ Below w.heap.size w w' := by
  have hu := Tryz.underlying63
  have hu2 := Tryz.underlying25
  have hu3 := Tryz.underlying65
  have HC := Aside0.mk (fun w (hr : Kd.C (Kd.slice 3 (Kd.int .i64)) w A1 l.length l) => graph_space_isRight.calls m A1 c1 l _ w hr hc1 rfl)
  have HL := Aside0.mk hr1
  have HG := Aside0.mk hr2
  have HV := Aside0.mk hr3
  have HGC := Aside0.mk hc2
  have HVC := Aside0.mk hc3
  clear hr1 hr2 hr3 hc2 hc3
  rw [h1] at HC
  clear h1
  go_enter Tryz.func30, Tryz.ntmps30
  go_wp2_with fail
  refine (HC.out _ (Kd.C_alloc (Kd.C_alloc (Kd.C_alloc HL.out _) _) _)).mono ?_
  rintro e w1 ⟨rfl, hb⟩
  have G0 := Aside0.mk (blk_below (blk_alloc (blk_alloc (blk_new w (.cells #[.slice A2 g.length c2] 25)) _) _) hb)
  have G1 := Aside0.mk (blk_below (blk_alloc (blk_new (w.alloc (.cells #[.slice A2 g.length c2] 25)) (.cells #[.int .i64 0, .slice none 0 0, .slice none 0 0, .slice none 0 0] 65)) _) hb)
  have G2 := Aside0.mk (blk_below (blk_new ((w.alloc (.cells #[.slice A2 g.length c2] 25)).alloc (.cells #[.int .i64 0, .slice none 0 0, .slice none 0 0, .slice none 0 0] 65)) (.cells #[.int .i64 m, .slice A1 l.length c1, .slice A2 g.length c2, .slice none 0 0] 65)) hb)
  simp only [World.size_alloc, Nat.add_assoc, Nat.reduceAdd] at G1 G2
  have HB := Aside0.mk (below_step (below_alloc (below_alloc (below_alloc (Below.refl _ w) _) _) _) hb)
  have K1 := Aside0.mk (Kd.C_below (Kd.C_alloc (Kd.C_alloc (Kd.C_alloc HL.out _) _) _) hb)
  have K2 := Aside0.mk (Kd.C_below (Kd.C_alloc (Kd.C_alloc (Kd.C_alloc HG.out _) _) _) hb)
  have K3 := Aside0.mk (Kd.C_below (Kd.C_alloc (Kd.C_alloc (Kd.C_alloc HV.out _) _) _) hb)
  clear hb HL HG HV
  have c0 : w1.cell? ⟨w.heap.size, 0, none⟩ = some (.slice A2 g.length c2) := by simp [World.cell?, G0.out]
  have r0 : w1.cell? ⟨w.heap.size + 1, 0, none⟩ = some (.int .i64 0) := by simp [World.cell?, G1.out]
  have r1 : w1.cell? ⟨w.heap.size + 1, 1, none⟩ = some (.slice none 0 0) := by simp [World.cell?, G1.out]
  have r2 : w1.cell? ⟨w.heap.size + 1, 2, none⟩ = some (.slice none 0 0) := by simp [World.cell?, G1.out]
  have r3 : w1.cell? ⟨w.heap.size + 1, 3, none⟩ = some (.slice none 0 0) := by simp [World.cell?, G1.out]
  have q0 : w1.frozen? ⟨w.heap.size + 1, 0, none⟩ = false := by simp [World.frozen?, G1.out]
  have q1 : w1.frozen? ⟨w.heap.size + 1, 1, none⟩ = false := by simp [World.frozen?, G1.out]
  have q2 : w1.frozen? ⟨w.heap.size + 1, 2, none⟩ = false := by simp [World.frozen?, G1.out]
  have q3 : w1.frozen? ⟨w.heap.size + 1, 3, none⟩ = false := by simp [World.frozen?, G1.out]
  have s0 : w1.cell? ⟨w.heap.size + 2, 0, none⟩ = some (.int .i64 m) := by simp [World.cell?, G2.out]
  have s1 : w1.cell? ⟨w.heap.size + 2, 1, none⟩ = some (.slice A1 l.length c1) := by simp [World.cell?, G2.out]
  have s2 : w1.cell? ⟨w.heap.size + 2, 2, none⟩ = some (.slice A2 g.length c2) := by simp [World.cell?, G2.out]
  have s3 : w1.cell? ⟨w.heap.size + 2, 3, none⟩ = some (.slice none 0 0) := by simp [World.cell?, G2.out]
  have p3 : w1.frozen? ⟨w.heap.size + 2, 3, none⟩ = false := by simp [World.frozen?, G2.out]
  go_wp2
  refine bodyPost_ret (results_ct rfl _ _ (w.heap.size + 1) 65 _ (0, 0) _ rfl (blk_put (cs := #[.int .i64 m, .slice A1 l.length c1, .slice A2 g.length c2, .slice none 0 0]) (blk_put (cs := #[.int .i64 m, .slice A1 l.length c1, .slice none 0 0, .slice none 0 0]) (blk_put (cs := #[.int .i64 m, .slice none 0 0, .slice none 0 0, .slice none 0 0]) (blk_put (cs := #[.int .i64 0, .slice none 0 0, .slice none 0 0, .slice none 0 0]) G1.out 0 _ rfl) 1 _ rfl) 2 _ rfl) 3 _ rfl) Tryz.underlying65 rfl (by kernel_rfl)) rfl ?_
  exact ⟨rfl, (((HB.out.setCell (p := ⟨w.heap.size + 1, 0, none⟩) (by simp) _).setCell (p := ⟨w.heap.size + 1, 1, none⟩) (by simp) _).setCell (p := ⟨w.heap.size + 1, 2, none⟩) (by simp) _).setCell (p := ⟨w.heap.size + 1, 3, none⟩) (by simp) _⟩
set_option maxHeartbeats 1000000 in
set_option maxRecDepth 100000 in
theorem beginNo2 (m : Int) (A1 : Option Addr) (c1 : Nat) (l : List (List Int)) (A2 : Option Addr) (c2 : Nat) (g : List Hd) (A3 : Option Addr) (c3 : Nat) (v : List Int) (from_ : Int) (w : World) (hr1 : Kd.C (Kd.slice 3 (Kd.int .i64)) w A1 l.length l) (hc1 : l.length ≤ c1) (hr2 : Kd.C k61 w A2 g.length g) (hc2 : g.length ≤ c2) (hr3 : Kd.C (Kd.int .i64) w A3 v.length v) (hc3 : v.length ≤ c3) (h1 : rightF m l = true) (h2 : ValidAt l.length g false) :
    Calls Tryz.prog 30 #[.int .i64 m, .slice A1 l.length c1, .agg #[.slice A2 g.length c2], .slice A3 v.length c3, .int .i64 from_] w fun e w' => e = .returned (.tuple #[searchV m A1 l.length c1 A2 g.length c2 none 0 0, .bool false]) ∧ Below w.heap.size w w' := by
  have hu := Tryz.underlying63
  have hu2 := Tryz.underlying25
  have hu3 := Tryz.underlying65
  have HC := Aside0.mk (fun w (hr : Kd.C (Kd.slice 3 (Kd.int .i64)) w A1 l.length l) => graph_space_isRight.calls m A1 c1 l _ w hr hc1 rfl)
  have HL := Aside0.mk hr1
  have HG := Aside0.mk hr2
  have HV := Aside0.mk hr3
  have HGC := Aside0.mk hc2
  have HVC := Aside0.mk hc3
  clear hr1 hr2 hr3 hc2 hc3
  rw [h1] at HC
  clear h1
  obtain ⟨k, hk⟩ := h2
  have HVD := Aside0.mk (fun w (hr : Kd.C k61 w A2 g.length g) => graph_Valid.calls k l.length A2 c2 g _ w hr HGC.out hk)
  clear hk
  go_enter Tryz.func30, Tryz.ntmps30
  go_wp2_with fail
  refine (HC.out _ (Kd.C_alloc (Kd.C_alloc (Kd.C_alloc HL.out _) _) _)).mono ?_
  rintro e w1 ⟨rfl, hb⟩
  have G0 := Aside0.mk (blk_below (blk_alloc (blk_alloc (blk_new w (.cells #[.slice A2 g.length c2] 25)) _) _) hb)
  have G1 := Aside0.mk (blk_below (blk_alloc (blk_new (w.alloc (.cells #[.slice A2 g.length c2] 25)) (.cells #[.int .i64 0, .slice none 0 0, .slice none 0 0, .slice none 0 0] 65)) _) hb)
  have G2 := Aside0.mk (blk_below (blk_new ((w.alloc (.cells #[.slice A2 g.length c2] 25)).alloc (.cells #[.int .i64 0, .slice none 0 0, .slice none 0 0, .slice none 0 0] 65)) (.cells #[.int .i64 m, .slice A1 l.length c1, .slice A2 g.length c2, .slice none 0 0] 65)) hb)
  simp only [World.size_alloc, Nat.add_assoc, Nat.reduceAdd] at G1 G2
  have HB := Aside0.mk (below_step (below_alloc (below_alloc (below_alloc (Below.refl _ w) _) _) _) hb)
  have K1 := Aside0.mk (Kd.C_below (Kd.C_alloc (Kd.C_alloc (Kd.C_alloc HL.out _) _) _) hb)
  have K2 := Aside0.mk (Kd.C_below (Kd.C_alloc (Kd.C_alloc (Kd.C_alloc HG.out _) _) _) hb)
  have K3 := Aside0.mk (Kd.C_below (Kd.C_alloc (Kd.C_alloc (Kd.C_alloc HV.out _) _) _) hb)
  clear hb HL HG HV
  have c0 : w1.cell? ⟨w.heap.size, 0, none⟩ = some (.slice A2 g.length c2) := by simp [World.cell?, G0.out]
  have r0 : w1.cell? ⟨w.heap.size + 1, 0, none⟩ = some (.int .i64 0) := by simp [World.cell?, G1.out]
  have r1 : w1.cell? ⟨w.heap.size + 1, 1, none⟩ = some (.slice none 0 0) := by simp [World.cell?, G1.out]
  have r2 : w1.cell? ⟨w.heap.size + 1, 2, none⟩ = some (.slice none 0 0) := by simp [World.cell?, G1.out]
  have r3 : w1.cell? ⟨w.heap.size + 1, 3, none⟩ = some (.slice none 0 0) := by simp [World.cell?, G1.out]
  have q0 : w1.frozen? ⟨w.heap.size + 1, 0, none⟩ = false := by simp [World.frozen?, G1.out]
  have q1 : w1.frozen? ⟨w.heap.size + 1, 1, none⟩ = false := by simp [World.frozen?, G1.out]
  have q2 : w1.frozen? ⟨w.heap.size + 1, 2, none⟩ = false := by simp [World.frozen?, G1.out]
  have q3 : w1.frozen? ⟨w.heap.size + 1, 3, none⟩ = false := by simp [World.frozen?, G1.out]
  have s0 : w1.cell? ⟨w.heap.size + 2, 0, none⟩ = some (.int .i64 m) := by simp [World.cell?, G2.out]
  have s1 : w1.cell? ⟨w.heap.size + 2, 1, none⟩ = some (.slice A1 l.length c1) := by simp [World.cell?, G2.out]
  have s2 : w1.cell? ⟨w.heap.size + 2, 2, none⟩ = some (.slice A2 g.length c2) := by simp [World.cell?, G2.out]
  have s3 : w1.cell? ⟨w.heap.size + 2, 3, none⟩ = some (.slice none 0 0) := by simp [World.cell?, G2.out]
  have p3 : w1.frozen? ⟨w.heap.size + 2, 3, none⟩ = false := by simp [World.frozen?, G2.out]
  go_wp2_with fail
  refine (HVD.out _ K2.out).mono ?_
  rintro e w2 ⟨rfl, hb⟩
  replace G0 := Aside0.mk (blk_below G0.out hb)
  replace G1 := Aside0.mk (blk_below G1.out hb)
  replace G2 := Aside0.mk (blk_below G2.out hb)
  replace K1 := Aside0.mk (Kd.C_below K1.out hb)
  replace K2 := Aside0.mk (Kd.C_below K2.out hb)
  replace K3 := Aside0.mk (Kd.C_below K3.out hb)
  replace HB := Aside0.mk (below_step HB.out hb)
  clear hb HVD
  clear c0 r0 r1 r2 r3 q0 q1 q2 q3 s0 s1 s2 s3 p3
  have c0 : w2.cell? ⟨w.heap.size, 0, none⟩ = some (.slice A2 g.length c2) := by simp [World.cell?, G0.out]
  have r0 : w2.cell? ⟨w.heap.size + 1, 0, none⟩ = some (.int .i64 0) := by simp [World.cell?, G1.out]
  have r1 : w2.cell? ⟨w.heap.size + 1, 1, none⟩ = some (.slice none 0 0) := by simp [World.cell?, G1.out]
  have r2 : w2.cell? ⟨w.heap.size + 1, 2, none⟩ = some (.slice none 0 0) := by simp [World.cell?, G1.out]
  have r3 : w2.cell? ⟨w.heap.size + 1, 3, none⟩ = some (.slice none 0 0) := by simp [World.cell?, G1.out]
  have q0 : w2.frozen? ⟨w.heap.size + 1, 0, none⟩ = false := by simp [World.frozen?, G1.out]
  have q1 : w2.frozen? ⟨w.heap.size + 1, 1, none⟩ = false := by simp [World.frozen?, G1.out]
  have q2 : w2.frozen? ⟨w.heap.size + 1, 2, none⟩ = false := by simp [World.frozen?, G1.out]
  have q3 : w2.frozen? ⟨w.heap.size + 1, 3, none⟩ = false := by simp [World.frozen?, G1.out]
  have s0 : w2.cell? ⟨w.heap.size + 2, 0, none⟩ = some (.int .i64 m) := by simp [World.cell?, G2.out]
  have s1 : w2.cell? ⟨w.heap.size + 2, 1, none⟩ = some (.slice A1 l.length c1) := by simp [World.cell?, G2.out]
  have s2 : w2.cell? ⟨w.heap.size + 2, 2, none⟩ = some (.slice A2 g.length c2) := by simp [World.cell?, G2.out]
  have s3 : w2.cell? ⟨w.heap.size + 2, 3, none⟩ = some (.slice none 0 0) := by simp [World.cell?, G2.out]
  have p3 : w2.frozen? ⟨w.heap.size + 2, 3, none⟩ = false := by simp [World.frozen?, G2.out]
  go_wp2
  refine bodyPost_ret (results_ct rfl _ _ (w.heap.size + 1) 65 _ (0, 0) _ rfl (blk_put (cs := #[.int .i64 m, .slice A1 l.length c1, .slice A2 g.length c2, .slice none 0 0]) (blk_put (cs := #[.int .i64 m, .slice A1 l.length c1, .slice none 0 0, .slice none 0 0]) (blk_put (cs := #[.int .i64 m, .slice none 0 0, .slice none 0 0, .slice none 0 0]) (blk_put (cs := #[.int .i64 0, .slice none 0 0, .slice none 0 0, .slice none 0 0]) G1.out 0 _ rfl) 1 _ rfl) 2 _ rfl) 3 _ rfl) Tryz.underlying65 rfl (by kernel_rfl)) rfl ?_
  exact ⟨rfl, (((HB.out.setCell (p := ⟨w.heap.size + 1, 0, none⟩) (by simp) _).setCell (p := ⟨w.heap.size + 1, 1, none⟩) (by simp) _).setCell (p := ⟨w.heap.size + 1, 2, none⟩) (by simp) _).setCell (p := ⟨w.heap.size + 1, 3, none⟩) (by simp) _⟩
set_option maxHeartbeats 1000000 in
set_option maxRecDepth 100000 in
theorem beginNo3 (m : Int) (A1 : Option Addr) (c1 : Nat) (l : List (List Int)) (A2 : Option Addr) (c2 : Nat) (g : List Hd) (A3 : Option Addr) (c3 : Nat) (v : List Int) (from_ : Int) (w : World) (hr1 : Kd.C (Kd.slice 3 (Kd.int .i64)) w A1 l.length l) (hc1 : l.length ≤ c1) (hr2 : Kd.C k61 w A2 g.length g) (hc2 : g.length ≤ c2) (hr3 : Kd.C (Kd.int .i64) w A3 v.length v) (hc3 : v.length ≤ c3) (h1 : rightF m l = true) (h2 : ValidAt l.length g true) (h0 : 1 ≤ l.length) (hal : alikeF (rdL l 0) v = false) :
    Calls Tryz.prog 30 #[.int .i64 m, .slice A1 l.length c1, .agg #[.slice A2 g.length c2], .slice A3 v.length c3, .int .i64 from_] w fun e w' => e = .returned (.tuple #[searchV m A1 l.length c1 A2 g.length c2 none 0 0, .bool false]) ∧ Below w.heap.size w w' := by
  have hu := Tryz.underlying63
  have hu2 := Tryz.underlying25
  have hu3 := Tryz.underlying65
  have HC := Aside0.mk (fun w (hr : Kd.C (Kd.slice 3 (Kd.int .i64)) w A1 l.length l) => graph_space_isRight.calls m A1 c1 l _ w hr hc1 rfl)
  have HL := Aside0.mk hr1
  have HG := Aside0.mk hr2
  have HV := Aside0.mk hr3
  have HGC := Aside0.mk hc2
  have HVC := Aside0.mk hc3
  clear hr1 hr2 hr3 hc2 hc3
  rw [h1] at HC
  clear h1
  obtain ⟨k, hk⟩ := h2
  have HVD := Aside0.mk (fun w (hr : Kd.C k61 w A2 g.length g) => graph_Valid.calls k l.length A2 c2 g _ w hr HGC.out hk)
  clear hk
  have hl1 : 1 ≤ l.length := h0
  clear h0
  go_enter Tryz.func30, Tryz.ntmps30
  go_wp2_with fail
  refine (HC.out _ (Kd.C_alloc (Kd.C_alloc (Kd.C_alloc HL.out _) _) _)).mono ?_
  rintro e w1 ⟨rfl, hb⟩
  have G0 := Aside0.mk (blk_below (blk_alloc (blk_alloc (blk_new w (.cells #[.slice A2 g.length c2] 25)) _) _) hb)
  have G1 := Aside0.mk (blk_below (blk_alloc (blk_new (w.alloc (.cells #[.slice A2 g.length c2] 25)) (.cells #[.int .i64 0, .slice none 0 0, .slice none 0 0, .slice none 0 0] 65)) _) hb)
  have G2 := Aside0.mk (blk_below (blk_new ((w.alloc (.cells #[.slice A2 g.length c2] 25)).alloc (.cells #[.int .i64 0, .slice none 0 0, .slice none 0 0, .slice none 0 0] 65)) (.cells #[.int .i64 m, .slice A1 l.length c1, .slice A2 g.length c2, .slice none 0 0] 65)) hb)
  simp only [World.size_alloc, Nat.add_assoc, Nat.reduceAdd] at G1 G2
  have HB := Aside0.mk (below_step (below_alloc (below_alloc (below_alloc (Below.refl _ w) _) _) _) hb)
  have K1 := Aside0.mk (Kd.C_below (Kd.C_alloc (Kd.C_alloc (Kd.C_alloc HL.out _) _) _) hb)
  have K2 := Aside0.mk (Kd.C_below (Kd.C_alloc (Kd.C_alloc (Kd.C_alloc HG.out _) _) _) hb)
  have K3 := Aside0.mk (Kd.C_below (Kd.C_alloc (Kd.C_alloc (Kd.C_alloc HV.out _) _) _) hb)
  clear hb HL HG HV
  have c0 : w1.cell? ⟨w.heap.size, 0, none⟩ = some (.slice A2 g.length c2) := by simp [World.cell?, G0.out]
  have r0 : w1.cell? ⟨w.heap.size + 1, 0, none⟩ = some (.int .i64 0) := by simp [World.cell?, G1.out]
  have r1 : w1.cell? ⟨w.heap.size + 1, 1, none⟩ = some (.slice none 0 0) := by simp [World.cell?, G1.out]
  have r2 : w1.cell? ⟨w.heap.size + 1, 2, none⟩ = some (.slice none 0 0) := by simp [World.cell?, G1.out]
  have r3 : w1.cell? ⟨w.heap.size + 1, 3, none⟩ = some (.slice none 0 0) := by simp [World.cell?, G1.out]
  have q0 : w1.frozen? ⟨w.heap.size + 1, 0, none⟩ = false := by simp [World.frozen?, G1.out]
  have q1 : w1.frozen? ⟨w.heap.size + 1, 1, none⟩ = false := by simp [World.frozen?, G1.out]
  have q2 : w1.frozen? ⟨w.heap.size + 1, 2, none⟩ = false := by simp [World.frozen?, G1.out]
  have q3 : w1.frozen? ⟨w.heap.size + 1, 3, none⟩ = false := by simp [World.frozen?, G1.out]
  have s0 : w1.cell? ⟨w.heap.size + 2, 0, none⟩ = some (.int .i64 m) := by simp [World.cell?, G2.out]
  have s1 : w1.cell? ⟨w.heap.size + 2, 1, none⟩ = some (.slice A1 l.length c1) := by simp [World.cell?, G2.out]
  have s2 : w1.cell? ⟨w.heap.size + 2, 2, none⟩ = some (.slice A2 g.length c2) := by simp [World.cell?, G2.out]
  have s3 : w1.cell? ⟨w.heap.size + 2, 3, none⟩ = some (.slice none 0 0) := by simp [World.cell?, G2.out]
  have p3 : w1.frozen? ⟨w.heap.size + 2, 3, none⟩ = false := by simp [World.frozen?, G2.out]
  go_wp2_with fail
  refine (HVD.out _ K2.out).mono ?_
  rintro e w2 ⟨rfl, hb⟩
  replace G0 := Aside0.mk (blk_below G0.out hb)
  replace G1 := Aside0.mk (blk_below G1.out hb)
  replace G2 := Aside0.mk (blk_below G2.out hb)
  replace K1 := Aside0.mk (Kd.C_below K1.out hb)
  replace K2 := Aside0.mk (Kd.C_below K2.out hb)
  replace K3 := Aside0.mk (Kd.C_below K3.out hb)
  replace HB := Aside0.mk (below_step HB.out hb)
  clear hb HVD
  clear c0 r0 r1 r2 r3 q0 q1 q2 q3 s0 s1 s2 s3 p3
  have c0 : w2.cell? ⟨w.heap.size, 0, none⟩ = some (.slice A2 g.length c2) := by simp [World.cell?, G0.out]
  have r0 : w2.cell? ⟨w.heap.size + 1, 0, none⟩ = some (.int .i64 0) := by simp [World.cell?, G1.out]
  have r1 : w2.cell? ⟨w.heap.size + 1, 1, none⟩ = some (.slice none 0 0) := by simp [World.cell?, G1.out]
  have r2 : w2.cell? ⟨w.heap.size + 1, 2, none⟩ = some (.slice none 0 0) := by simp [World.cell?, G1.out]
  have r3 : w2.cell? ⟨w.heap.size + 1, 3, none⟩ = some (.slice none 0 0) := by simp [World.cell?, G1.out]
  have q0 : w2.frozen? ⟨w.heap.size + 1, 0, none⟩ = false := by simp [World.frozen?, G1.out]
  have q1 : w2.frozen? ⟨w.heap.size + 1, 1, none⟩ = false := by simp [World.frozen?, G1.out]
  have q2 : w2.frozen? ⟨w.heap.size + 1, 2, none⟩ = false := by simp [World.frozen?, G1.out]
  have q3 : w2.frozen? ⟨w.heap.size + 1, 3, none⟩ = false := by simp [World.frozen?, G1.out]
  have s0 : w2.cell? ⟨w.heap.size + 2, 0, none⟩ = some (.int .i64 m) := by simp [World.cell?, G2.out]
  have s1 : w2.cell? ⟨w.heap.size + 2, 1, none⟩ = some (.slice A1 l.length c1) := by simp [World.cell?, G2.out]
  have s2 : w2.cell? ⟨w.heap.size + 2, 2, none⟩ = some (.slice A2 g.length c2) := by simp [World.cell?, G2.out]
  have s3 : w2.cell? ⟨w.heap.size + 2, 3, none⟩ = some (.slice none 0 0) := by simp [World.cell?, G2.out]
  have p3 : w2.frozen? ⟨w.heap.size + 2, 3, none⟩ = false := by simp [World.frozen?, G2.out]
  obtain ⟨ad, A0, ca, rfl, hx, hlc, hi⟩ := at_rows K1.out 0 (by omega) (by omega)
  have hx : w2.cell? ad = some (.slice A0 (rdL l 0).length ca) := by simpa [Addr.add] using hx
  have hpos : (0 : Int) < (l.length : Int) := by omega
  have HAK := Aside0.mk (vector_Alike.calls A0 ca (rdL l 0) A3 c3 v _ w2 hi hlc K3.out HVC.out (alike_f _ _))
  clear hi hlc
  rw [hal] at HAK
  go_wp2_with fail
  refine HAK.out.mono ?_
  rintro e w3 ⟨rfl, hd⟩
  obtain ⟨nq, rfl⟩ := hd.out
  clear hd HAK hx
  replace G0 := Aside0.mk (blk_drewN G0.out nq)
  replace G1 := Aside0.mk (blk_drewN G1.out nq)
  replace G2 := Aside0.mk (blk_drewN G2.out nq)
  replace K1 := Aside0.mk (Kd.C_drewN K1.out nq)
  replace K3 := Aside0.mk (Kd.C_drewN K3.out nq)
  replace HB := Aside0.mk (pw_below_drewN HB.out nq)
  clear hal
  generalize w2.drewN nq = w3 at G0 G1 G2 K1 K3 HB ⊢
  clear c0 r0 r1 r2 r3 q0 q1 q2 q3 s0 s1 s2 s3 p3
  have c0 : w3.cell? ⟨w.heap.size, 0, none⟩ = some (.slice A2 g.length c2) := by simp [World.cell?, G0.out]
  have r0 : w3.cell? ⟨w.heap.size + 1, 0, none⟩ = some (.int .i64 0) := by simp [World.cell?, G1.out]
  have r1 : w3.cell? ⟨w.heap.size + 1, 1, none⟩ = some (.slice none 0 0) := by simp [World.cell?, G1.out]
  have r2 : w3.cell? ⟨w.heap.size + 1, 2, none⟩ = some (.slice none 0 0) := by simp [World.cell?, G1.out]
  have r3 : w3.cell? ⟨w.heap.size + 1, 3, none⟩ = some (.slice none 0 0) := by simp [World.cell?, G1.out]
  have q0 : w3.frozen? ⟨w.heap.size + 1, 0, none⟩ = false := by simp [World.frozen?, G1.out]
  have q1 : w3.frozen? ⟨w.heap.size + 1, 1, none⟩ = false := by simp [World.frozen?, G1.out]
  have q2 : w3.frozen? ⟨w.heap.size + 1, 2, none⟩ = false := by simp [World.frozen?, G1.out]
  have q3 : w3.frozen? ⟨w.heap.size + 1, 3, none⟩ = false := by simp [World.frozen?, G1.out]
  have s0 : w3.cell? ⟨w.heap.size + 2, 0, none⟩ = some (.int .i64 m) := by simp [World.cell?, G2.out]
  have s1 : w3.cell? ⟨w.heap.size + 2, 1, none⟩ = some (.slice (some ad) l.length c1) := by simp [World.cell?, G2.out]
  have s2 : w3.cell? ⟨w.heap.size + 2, 2, none⟩ = some (.slice A2 g.length c2) := by simp [World.cell?, G2.out]
  have s3 : w3.cell? ⟨w.heap.size + 2, 3, none⟩ = some (.slice none 0 0) := by simp [World.cell?, G2.out]
  have p3 : w3.frozen? ⟨w.heap.size + 2, 3, none⟩ = false := by simp [World.frozen?, G2.out]
  go_wp2
  refine bodyPost_ret (results_ct rfl _ _ (w.heap.size + 1) 65 _ (0, 0) _ rfl (blk_put (cs := #[.int .i64 m, .slice (some ad) l.length c1, .slice A2 g.length c2, .slice none 0 0]) (blk_put (cs := #[.int .i64 m, .slice (some ad) l.length c1, .slice none 0 0, .slice none 0 0]) (blk_put (cs := #[.int .i64 m, .slice none 0 0, .slice none 0 0, .slice none 0 0]) (blk_put (cs := #[.int .i64 0, .slice none 0 0, .slice none 0 0, .slice none 0 0]) G1.out 0 _ rfl) 1 _ rfl) 2 _ rfl) 3 _ rfl) Tryz.underlying65 rfl (by kernel_rfl)) rfl ?_
  exact ⟨rfl, (((HB.out.setCell (p := ⟨w.heap.size + 1, 0, none⟩) (by simp) _).setCell (p := ⟨w.heap.size + 1, 1, none⟩) (by simp) _).setCell (p := ⟨w.heap.size + 1, 2, none⟩) (by simp) _).setCell (p := ⟨w.heap.size + 1, 3, none⟩) (by simp) _⟩
set_option maxHeartbeats 1000000 in
set_option maxRecDepth 100000 in
theorem beginNo4 (m : Int) (A1 : Option Addr) (c1 : Nat) (l : List (List Int)) (A2 : Option Addr) (c2 : Nat) (g : List Hd) (A3 : Option Addr) (c3 : Nat) (v : List Int) (from_ : Int) (w : World) (hr1 : Kd.C (Kd.slice 3 (Kd.int .i64)) w A1 l.length l) (hc1 : l.length ≤ c1) (hr2 : Kd.C k61 w A2 g.length g) (hc2 : g.length ≤ c2) (hr3 : Kd.C (Kd.int .i64) w A3 v.length v) (hc3 : v.length ≤ c3) (h1 : rightF m l = true) (h2 : ValidAt l.length g true) (h0 : 1 ≤ l.length) (hal : alikeF (rdL l 0) v = true) (h4 : from_ < 0) :
    Calls Tryz.prog 30 #[.int .i64 m, .slice A1 l.length c1, .agg #[.slice A2 g.length c2], .slice A3 v.length c3, .int .i64 from_] w fun e w' => e = .returned (.tuple #[searchV m A1 l.length c1 A2 g.length c2 none 0 0, .bool false]) ∧ Below w.heap.size w w' := by
  have hu := Tryz.underlying63
  have hu2 := Tryz.underlying25
  have hu3 := Tryz.underlying65
  have HC := Aside0.mk (fun w (hr : Kd.C (Kd.slice 3 (Kd.int .i64)) w A1 l.length l) => graph_space_isRight.calls m A1 c1 l _ w hr hc1 rfl)
  have HL := Aside0.mk hr1
  have HG := Aside0.mk hr2
  have HV := Aside0.mk hr3
  have HGC := Aside0.mk hc2
  have HVC := Aside0.mk hc3
  clear hr1 hr2 hr3 hc2 hc3
  rw [h1] at HC
  clear h1
  obtain ⟨k, hk⟩ := h2
  have HVD := Aside0.mk (fun w (hr : Kd.C k61 w A2 g.length g) => graph_Valid.calls k l.length A2 c2 g _ w hr HGC.out hk)
  clear hk
  have hl1 : 1 ≤ l.length := h0
  clear h0
  go_enter Tryz.func30, Tryz.ntmps30
  go_wp2_with fail
  refine (HC.out _ (Kd.C_alloc (Kd.C_alloc (Kd.C_alloc HL.out _) _) _)).mono ?_
  rintro e w1 ⟨rfl, hb⟩
  have G0 := Aside0.mk (blk_below (blk_alloc (blk_alloc (blk_new w (.cells #[.slice A2 g.length c2] 25)) _) _) hb)
  have G1 := Aside0.mk (blk_below (blk_alloc (blk_new (w.alloc (.cells #[.slice A2 g.length c2] 25)) (.cells #[.int .i64 0, .slice none 0 0, .slice none 0 0, .slice none 0 0] 65)) _) hb)
  have G2 := Aside0.mk (blk_below (blk_new ((w.alloc (.cells #[.slice A2 g.length c2] 25)).alloc (.cells #[.int .i64 0, .slice none 0 0, .slice none 0 0, .slice none 0 0] 65)) (.cells #[.int .i64 m, .slice A1 l.length c1, .slice A2 g.length c2, .slice none 0 0] 65)) hb)
  simp only [World.size_alloc, Nat.add_assoc, Nat.reduceAdd] at G1 G2
  have HB := Aside0.mk (below_step (below_alloc (below_alloc (below_alloc (Below.refl _ w) _) _) _) hb)
  have K1 := Aside0.mk (Kd.C_below (Kd.C_alloc (Kd.C_alloc (Kd.C_alloc HL.out _) _) _) hb)
  have K2 := Aside0.mk (Kd.C_below (Kd.C_alloc (Kd.C_alloc (Kd.C_alloc HG.out _) _) _) hb)
  have K3 := Aside0.mk (Kd.C_below (Kd.C_alloc (Kd.C_alloc (Kd.C_alloc HV.out _) _) _) hb)
  clear hb HL HG HV
  have c0 : w1.cell? ⟨w.heap.size, 0, none⟩ = some (.slice A2 g.length c2) := by simp [World.cell?, G0.out]
  have r0 : w1.cell? ⟨w.heap.size + 1, 0, none⟩ = some (.int .i64 0) := by simp [World.cell?, G1.out]
  have r1 : w1.cell? ⟨w.heap.size + 1, 1, none⟩ = some (.slice none 0 0) := by simp [World.cell?, G1.out]
  have r2 : w1.cell? ⟨w.heap.size + 1, 2, none⟩ = some (.slice none 0 0) := by simp [World.cell?, G1.out]
  have r3 : w1.cell? ⟨w.heap.size + 1, 3, none⟩ = some (.slice none 0 0) := by simp [World.cell?, G1.out]
  have q0 : w1.frozen? ⟨w.heap.size + 1, 0, none⟩ = false := by simp [World.frozen?, G1.out]
  have q1 : w1.frozen? ⟨w.heap.size + 1, 1, none⟩ = false := by simp [World.frozen?, G1.out]
  have q2 : w1.frozen? ⟨w.heap.size + 1, 2, none⟩ = false := by simp [World.frozen?, G1.out]
  have q3 : w1.frozen? ⟨w.heap.size + 1, 3, none⟩ = false := by simp [World.frozen?, G1.out]
  have s0 : w1.cell? ⟨w.heap.size + 2, 0, none⟩ = some (.int .i64 m) := by simp [World.cell?, G2.out]
  have s1 : w1.cell? ⟨w.heap.size + 2, 1, none⟩ = some (.slice A1 l.length c1) := by simp [World.cell?, G2.out]
  have s2 : w1.cell? ⟨w.heap.size + 2, 2, none⟩ = some (.slice A2 g.length c2) := by simp [World.cell?, G2.out]
  have s3 : w1.cell? ⟨w.heap.size + 2, 3, none⟩ = some (.slice none 0 0) := by simp [World.cell?, G2.out]
  have p3 : w1.frozen? ⟨w.heap.size + 2, 3, none⟩ = false := by simp [World.frozen?, G2.out]
  go_wp2_with fail
  refine (HVD.out _ K2.out).mono ?_
  rintro e w2 ⟨rfl, hb⟩
  replace G0 := Aside0.mk (blk_below G0.out hb)
  replace G1 := Aside0.mk (blk_below G1.out hb)
  replace G2 := Aside0.mk (blk_below G2.out hb)
  replace K1 := Aside0.mk (Kd.C_below K1.out hb)
  replace K2 := Aside0.mk (Kd.C_below K2.out hb)
  replace K3 := Aside0.mk (Kd.C_below K3.out hb)
  replace HB := Aside0.mk (below_step HB.out hb)
  clear hb HVD
  clear c0 r0 r1 r2 r3 q0 q1 q2 q3 s0 s1 s2 s3 p3
  have c0 : w2.cell? ⟨w.heap.size, 0, none⟩ = some (.slice A2 g.length c2) := by simp [World.cell?, G0.out]
  have r0 : w2.cell? ⟨w.heap.size + 1, 0, none⟩ = some (.int .i64 0) := by simp [World.cell?, G1.out]
  have r1 : w2.cell? ⟨w.heap.size + 1, 1, none⟩ = some (.slice none 0 0) := by simp [World.cell?, G1.out]
  have r2 : w2.cell? ⟨w.heap.size + 1, 2, none⟩ = some (.slice none 0 0) := by simp [World.cell?, G1.out]
  have r3 : w2.cell? ⟨w.heap.size + 1, 3, none⟩ = some (.slice none 0 0) := by simp [World.cell?, G1.out]
  have q0 : w2.frozen? ⟨w.heap.size + 1, 0, none⟩ = false := by simp [World.frozen?, G1.out]
  have q1 : w2.frozen? ⟨w.heap.size + 1, 1, none⟩ = false := by simp [World.frozen?, G1.out]
  have q2 : w2.frozen? ⟨w.heap.size + 1, 2, none⟩ = false := by simp [World.frozen?, G1.out]
  have q3 : w2.frozen? ⟨w.heap.size + 1, 3, none⟩ = false := by simp [World.frozen?, G1.out]
  have s0 : w2.cell? ⟨w.heap.size + 2, 0, none⟩ = some (.int .i64 m) := by simp [World.cell?, G2.out]
  have s1 : w2.cell? ⟨w.heap.size + 2, 1, none⟩ = some (.slice A1 l.length c1) := by simp [World.cell?, G2.out]
  have s2 : w2.cell? ⟨w.heap.size + 2, 2, none⟩ = some (.slice A2 g.length c2) := by simp [World.cell?, G2.out]
  have s3 : w2.cell? ⟨w.heap.size + 2, 3, none⟩ = some (.slice none 0 0) := by simp [World.cell?, G2.out]
  have p3 : w2.frozen? ⟨w.heap.size + 2, 3, none⟩ = false := by simp [World.frozen?, G2.out]
  obtain ⟨ad, A0, ca, rfl, hx, hlc, hi⟩ := at_rows K1.out 0 (by omega) (by omega)
  have hx : w2.cell? ad = some (.slice A0 (rdL l 0).length ca) := by simpa [Addr.add] using hx
  have hpos : (0 : Int) < (l.length : Int) := by omega
  have HAK := Aside0.mk (vector_Alike.calls A0 ca (rdL l 0) A3 c3 v _ w2 hi hlc K3.out HVC.out (alike_f _ _))
  clear hi hlc
  rw [hal] at HAK
  go_wp2_with fail
  refine HAK.out.mono ?_
  rintro e w3 ⟨rfl, hd⟩
  obtain ⟨nq, rfl⟩ := hd.out
  clear hd HAK hx
  replace G0 := Aside0.mk (blk_drewN G0.out nq)
  replace G1 := Aside0.mk (blk_drewN G1.out nq)
  replace G2 := Aside0.mk (blk_drewN G2.out nq)
  replace K1 := Aside0.mk (Kd.C_drewN K1.out nq)
  replace K3 := Aside0.mk (Kd.C_drewN K3.out nq)
  replace HB := Aside0.mk (pw_below_drewN HB.out nq)
  clear hal
  generalize w2.drewN nq = w3 at G0 G1 G2 K1 K3 HB ⊢
  clear c0 r0 r1 r2 r3 q0 q1 q2 q3 s0 s1 s2 s3 p3
  have c0 : w3.cell? ⟨w.heap.size, 0, none⟩ = some (.slice A2 g.length c2) := by simp [World.cell?, G0.out]
  have r0 : w3.cell? ⟨w.heap.size + 1, 0, none⟩ = some (.int .i64 0) := by simp [World.cell?, G1.out]
  have r1 : w3.cell? ⟨w.heap.size + 1, 1, none⟩ = some (.slice none 0 0) := by simp [World.cell?, G1.out]
  have r2 : w3.cell? ⟨w.heap.size + 1, 2, none⟩ = some (.slice none 0 0) := by simp [World.cell?, G1.out]
  have r3 : w3.cell? ⟨w.heap.size + 1, 3, none⟩ = some (.slice none 0 0) := by simp [World.cell?, G1.out]
  have q0 : w3.frozen? ⟨w.heap.size + 1, 0, none⟩ = false := by simp [World.frozen?, G1.out]
  have q1 : w3.frozen? ⟨w.heap.size + 1, 1, none⟩ = false := by simp [World.frozen?, G1.out]
  have q2 : w3.frozen? ⟨w.heap.size + 1, 2, none⟩ = false := by simp [World.frozen?, G1.out]
  have q3 : w3.frozen? ⟨w.heap.size + 1, 3, none⟩ = false := by simp [World.frozen?, G1.out]
  have s0 : w3.cell? ⟨w.heap.size + 2, 0, none⟩ = some (.int .i64 m) := by simp [World.cell?, G2.out]
  have s1 : w3.cell? ⟨w.heap.size + 2, 1, none⟩ = some (.slice (some ad) l.length c1) := by simp [World.cell?, G2.out]
  have s2 : w3.cell? ⟨w.heap.size + 2, 2, none⟩ = some (.slice A2 g.length c2) := by simp [World.cell?, G2.out]
  have s3 : w3.cell? ⟨w.heap.size + 2, 3, none⟩ = some (.slice none 0 0) := by simp [World.cell?, G2.out]
  have p3 : w3.frozen? ⟨w.heap.size + 2, 3, none⟩ = false := by simp [World.frozen?, G2.out]
  go_wp2
  refine bodyPost_ret (results_ct rfl _ _ (w.heap.size + 1) 65 _ (0, 0) _ rfl (blk_put (cs := #[.int .i64 m, .slice (some ad) l.length c1, .slice A2 g.length c2, .slice none 0 0]) (blk_put (cs := #[.int .i64 m, .slice (some ad) l.length c1, .slice none 0 0, .slice none 0 0]) (blk_put (cs := #[.int .i64 m, .slice none 0 0, .slice none 0 0, .slice none 0 0]) (blk_put (cs := #[.int .i64 0, .slice none 0 0, .slice none 0 0, .slice none 0 0]) G1.out 0 _ rfl) 1 _ rfl) 2 _ rfl) 3 _ rfl) Tryz.underlying65 rfl (by kernel_rfl)) rfl ?_
  exact ⟨rfl, (((HB.out.setCell (p := ⟨w.heap.size + 1, 0, none⟩) (by simp) _).setCell (p := ⟨w.heap.size + 1, 1, none⟩) (by simp) _).setCell (p := ⟨w.heap.size + 1, 2, none⟩) (by simp) _).setCell (p := ⟨w.heap.size + 1, 3, none⟩) (by simp) _⟩
set_option maxHeartbeats 1000000 in
set_option maxRecDepth 100000 in
theorem beginNo5 (m : Int) (A1 : Option Addr) (c1 : Nat) (l : List (List Int)) (A2 : Option Addr) (c2 : Nat) (g : List Hd) (A3 : Option Addr) (c3 : Nat) (v : List Int) (from_ : Int) (w : World) (hr1 : Kd.C (Kd.slice 3 (Kd.int .i64)) w A1 l.length l) (hc1 : l.length ≤ c1) (hr2 : Kd.C k61 w A2 g.length g) (hc2 : g.length ≤ c2) (hr3 : Kd.C (Kd.int .i64) w A3 v.length v) (hc3 : v.length ≤ c3) (h1 : rightF m l = true) (h2 : ValidAt l.length g true) (h0 : 1 ≤ l.length) (hal : alikeF (rdL l 0) v = true) (h4 : (l.length : Int) ≤ from_) :
    Calls Tryz.prog 30 #[.int .i64 m, .slice A1 l.length c1, .agg #[.slice A2 g.length c2], .slice A3 v.length c3, .int .i64 from_] w fun e w' => e = .returned (.tuple #[searchV m A1 l.length c1 A2 g.length c2 none 0 0, .bool false]) ∧ Below w.heap.size w w' := by
  have hu := Tryz.underlying63
  have hu2 := Tryz.underlying25
  have hu3 := Tryz.underlying65
  have HC := Aside0.mk (fun w (hr : Kd.C (Kd.slice 3 (Kd.int .i64)) w A1 l.length l) => graph_space_isRight.calls m A1 c1 l _ w hr hc1 rfl)
  have HL := Aside0.mk hr1
  have HG := Aside0.mk hr2
  have HV := Aside0.mk hr3
  have HGC := Aside0.mk hc2
  have HVC := Aside0.mk hc3
  clear hr1 hr2 hr3 hc2 hc3
  have h5 : ¬ from_ < 0 := by omega
  rw [h1] at HC
  clear h1
  obtain ⟨k, hk⟩ := h2
  have HVD := Aside0.mk (fun w (hr : Kd.C k61 w A2 g.length g) => graph_Valid.calls k l.length A2 c2 g _ w hr HGC.out hk)
  clear hk
  have hl1 : 1 ≤ l.length := h0
  clear h0
  go_enter Tryz.func30, Tryz.ntmps30
  go_wp2_with fail
  refine (HC.out _ (Kd.C_alloc (Kd.C_alloc (Kd.C_alloc HL.out _) _) _)).mono ?_
  rintro e w1 ⟨rfl, hb⟩
  have G0 := Aside0.mk (blk_below (blk_alloc (blk_alloc (blk_new w (.cells #[.slice A2 g.length c2] 25)) _) _) hb)
  have G1 := Aside0.mk (blk_below (blk_alloc (blk_new (w.alloc (.cells #[.slice A2 g.length c2] 25)) (.cells #[.int .i64 0, .slice none 0 0, .slice none 0 0, .slice none 0 0] 65)) _) hb)
  have G2 := Aside0.mk (blk_below (blk_new ((w.alloc (.cells #[.slice A2 g.length c2] 25)).alloc (.cells #[.int .i64 0, .slice none 0 0, .slice none 0 0, .slice none 0 0] 65)) (.cells #[.int .i64 m, .slice A1 l.length c1, .slice A2 g.length c2, .slice none 0 0] 65)) hb)
  simp only [World.size_alloc, Nat.add_assoc, Nat.reduceAdd] at G1 G2
  have HB := Aside0.mk (below_step (below_alloc (below_alloc (below_alloc (Below.refl _ w) _) _) _) hb)
  have K1 := Aside0.mk (Kd.C_below (Kd.C_alloc (Kd.C_alloc (Kd.C_alloc HL.out _) _) _) hb)
  have K2 := Aside0.mk (Kd.C_below (Kd.C_alloc (Kd.C_alloc (Kd.C_alloc HG.out _) _) _) hb)
  have K3 := Aside0.mk (Kd.C_below (Kd.C_alloc (Kd.C_alloc (Kd.C_alloc HV.out _) _) _) hb)
  clear hb HL HG HV
  have c0 : w1.cell? ⟨w.heap.size, 0, none⟩ = some (.slice A2 g.length c2) := by simp [World.cell?, G0.out]
  have r0 : w1.cell? ⟨w.heap.size + 1, 0, none⟩ = some (.int .i64 0) := by simp [World.cell?, G1.out]
  have r1 : w1.cell? ⟨w.heap.size + 1, 1, none⟩ = some (.slice none 0 0) := by simp [World.cell?, G1.out]
  have r2 : w1.cell? ⟨w.heap.size + 1, 2, none⟩ = some (.slice none 0 0) := by simp [World.cell?, G1.out]
  have r3 : w1.cell? ⟨w.heap.size + 1, 3, none⟩ = some (.slice none 0 0) := by simp [World.cell?, G1.out]
  have q0 : w1.frozen? ⟨w.heap.size + 1, 0, none⟩ = false := by simp [World.frozen?, G1.out]
  have q1 : w1.frozen? ⟨w.heap.size + 1, 1, none⟩ = false := by simp [World.frozen?, G1.out]
  have q2 : w1.frozen? ⟨w.heap.size + 1, 2, none⟩ = false := by simp [World.frozen?, G1.out]
  have q3 : w1.frozen? ⟨w.heap.size + 1, 3, none⟩ = false := by simp [World.frozen?, G1.out]
  have s0 : w1.cell? ⟨w.heap.size + 2, 0, none⟩ = some (.int .i64 m) := by simp [World.cell?, G2.out]
  have s1 : w1.cell? ⟨w.heap.size + 2, 1, none⟩ = some (.slice A1 l.length c1) := by simp [World.cell?, G2.out]
  have s2 : w1.cell? ⟨w.heap.size + 2, 2, none⟩ = some (.slice A2 g.length c2) := by simp [World.cell?, G2.out]
  have s3 : w1.cell? ⟨w.heap.size + 2, 3, none⟩ = some (.slice none 0 0) := by simp [World.cell?, G2.out]
  have p3 : w1.frozen? ⟨w.heap.size + 2, 3, none⟩ = false := by simp [World.frozen?, G2.out]
  go_wp2_with fail
  refine (HVD.out _ K2.out).mono ?_
  rintro e w2 ⟨rfl, hb⟩
  replace G0 := Aside0.mk (blk_below G0.out hb)
  replace G1 := Aside0.mk (blk_below G1.out hb)
  replace G2 := Aside0.mk (blk_below G2.out hb)
  replace K1 := Aside0.mk (Kd.C_below K1.out hb)
  replace K2 := Aside0.mk (Kd.C_below K2.out hb)
  replace K3 := Aside0.mk (Kd.C_below K3.out hb)
  replace HB := Aside0.mk (below_step HB.out hb)
  clear hb HVD
  clear c0 r0 r1 r2 r3 q0 q1 q2 q3 s0 s1 s2 s3 p3
  have c0 : w2.cell? ⟨w.heap.size, 0, none⟩ = some (.slice A2 g.length c2) := by simp [World.cell?, G0.out]
  have r0 : w2.cell? ⟨w.heap.size + 1, 0, none⟩ = some (.int .i64 0) := by simp [World.cell?, G1.out]
  have r1 : w2.cell? ⟨w.heap.size + 1, 1, none⟩ = some (.slice none 0 0) := by simp [World.cell?, G1.out]
  have r2 : w2.cell? ⟨w.heap.size + 1, 2, none⟩ = some (.slice none 0 0) := by simp [World.cell?, G1.out]
  have r3 : w2.cell? ⟨w.heap.size + 1, 3, none⟩ = some (.slice none 0 0) := by simp [World.cell?, G1.out]
  have q0 : w2.frozen? ⟨w.heap.size + 1, 0, none⟩ = false := by simp [World.frozen?, G1.out]
  have q1 : w2.frozen? ⟨w.heap.size + 1, 1, none⟩ = false := by simp [World.frozen?, G1.out]
  have q2 : w2.frozen? ⟨w.heap.size + 1, 2, none⟩ = false := by simp [World.frozen?, G1.out]
  have q3 : w2.frozen? ⟨w.heap.size + 1, 3, none⟩ = false := by simp [World.frozen?, G1.out]
  have s0 : w2.cell? ⟨w.heap.size + 2, 0, none⟩ = some (.int .i64 m) := by simp [World.cell?, G2.out]
  have s1 : w2.cell? ⟨w.heap.size + 2, 1, none⟩ = some (.slice A1 l.length c1) := by simp [World.cell?, G2.out]
  have s2 : w2.cell? ⟨w.heap.size + 2, 2, none⟩ = some (.slice A2 g.length c2) := by simp [World.cell?, G2.out]
  have s3 : w2.cell? ⟨w.heap.size + 2, 3, none⟩ = some (.slice none 0 0) := by simp [World.cell?, G2.out]
  have p3 : w2.frozen? ⟨w.heap.size + 2, 3, none⟩ = false := by simp [World.frozen?, G2.out]
  obtain ⟨ad, A0, ca, rfl, hx, hlc, hi⟩ := at_rows K1.out 0 (by omega) (by omega)
  have hx : w2.cell? ad = some (.slice A0 (rdL l 0).length ca) := by simpa [Addr.add] using hx
  have hpos : (0 : Int) < (l.length : Int) := by omega
  have HAK := Aside0.mk (vector_Alike.calls A0 ca (rdL l 0) A3 c3 v _ w2 hi hlc K3.out HVC.out (alike_f _ _))
  clear hi hlc
  rw [hal] at HAK
  go_wp2_with fail
  refine HAK.out.mono ?_
  rintro e w3 ⟨rfl, hd⟩
  obtain ⟨nq, rfl⟩ := hd.out
  clear hd HAK hx
  replace G0 := Aside0.mk (blk_drewN G0.out nq)
  replace G1 := Aside0.mk (blk_drewN G1.out nq)
  replace G2 := Aside0.mk (blk_drewN G2.out nq)
  replace K1 := Aside0.mk (Kd.C_drewN K1.out nq)
  replace K3 := Aside0.mk (Kd.C_drewN K3.out nq)
  replace HB := Aside0.mk (pw_below_drewN HB.out nq)
  clear hal
  generalize w2.drewN nq = w3 at G0 G1 G2 K1 K3 HB ⊢
  clear c0 r0 r1 r2 r3 q0 q1 q2 q3 s0 s1 s2 s3 p3
  have c0 : w3.cell? ⟨w.heap.size, 0, none⟩ = some (.slice A2 g.length c2) := by simp [World.cell?, G0.out]
  have r0 : w3.cell? ⟨w.heap.size + 1, 0, none⟩ = some (.int .i64 0) := by simp [World.cell?, G1.out]
  have r1 : w3.cell? ⟨w.heap.size + 1, 1, none⟩ = some (.slice none 0 0) := by simp [World.cell?, G1.out]
  have r2 : w3.cell? ⟨w.heap.size + 1, 2, none⟩ = some (.slice none 0 0) := by simp [World.cell?, G1.out]
  have r3 : w3.cell? ⟨w.heap.size + 1, 3, none⟩ = some (.slice none 0 0) := by simp [World.cell?, G1.out]
  have q0 : w3.frozen? ⟨w.heap.size + 1, 0, none⟩ = false := by simp [World.frozen?, G1.out]
  have q1 : w3.frozen? ⟨w.heap.size + 1, 1, none⟩ = false := by simp [World.frozen?, G1.out]
  have q2 : w3.frozen? ⟨w.heap.size + 1, 2, none⟩ = false := by simp [World.frozen?, G1.out]
  have q3 : w3.frozen? ⟨w.heap.size + 1, 3, none⟩ = false := by simp [World.frozen?, G1.out]
  have s0 : w3.cell? ⟨w.heap.size + 2, 0, none⟩ = some (.int .i64 m) := by simp [World.cell?, G2.out]
  have s1 : w3.cell? ⟨w.heap.size + 2, 1, none⟩ = some (.slice (some ad) l.length c1) := by simp [World.cell?, G2.out]
  have s2 : w3.cell? ⟨w.heap.size + 2, 2, none⟩ = some (.slice A2 g.length c2) := by simp [World.cell?, G2.out]
  have s3 : w3.cell? ⟨w.heap.size + 2, 3, none⟩ = some (.slice none 0 0) := by simp [World.cell?, G2.out]
  have p3 : w3.frozen? ⟨w.heap.size + 2, 3, none⟩ = false := by simp [World.frozen?, G2.out]
  go_wp2
  refine bodyPost_ret (results_ct rfl _ _ (w.heap.size + 1) 65 _ (0, 0) _ rfl (blk_put (cs := #[.int .i64 m, .slice (some ad) l.length c1, .slice A2 g.length c2, .slice none 0 0]) (blk_put (cs := #[.int .i64 m, .slice (some ad) l.length c1, .slice none 0 0, .slice none 0 0]) (blk_put (cs := #[.int .i64 m, .slice none 0 0, .slice none 0 0, .slice none 0 0]) (blk_put (cs := #[.int .i64 0, .slice none 0 0, .slice none 0 0, .slice none 0 0]) G1.out 0 _ rfl) 1 _ rfl) 2 _ rfl) 3 _ rfl) Tryz.underlying65 rfl (by kernel_rfl)) rfl ?_
  exact ⟨rfl, (((HB.out.setCell (p := ⟨w.heap.size + 1, 0, none⟩) (by simp) _).setCell (p := ⟨w.heap.size + 1, 1, none⟩) (by simp) _).setCell (p := ⟨w.heap.size + 1, 2, none⟩) (by simp) _).setCell (p := ⟨w.heap.size + 1, 3, none⟩) (by simp) _⟩
set_option maxHeartbeats 1000000 in
set_option maxRecDepth 100000 in
theorem beginYes (m : Int) (A1 : Option Addr) (c1 : Nat) (l : List (List Int)) (A2 : Option Addr) (c2 : Nat) (g : List Hd) (A3 : Option Addr) (c3 : Nat) (v : List Int) (from_ : Int) (w : World) (hr1 : Kd.C (Kd.slice 3 (Kd.int .i64)) w A1 l.length l) (hc1 : l.length ≤ c1) (hr2 : Kd.C k61 w A2 g.length g) (hc2 : g.length ≤ c2) (hr3 : Kd.C (Kd.int .i64) w A3 v.length v) (hc3 : v.length ≤ c3) (h1 : rightF m l = true) (h2 : ValidAt l.length g true) (h0 : 1 ≤ l.length) (hal : alikeF (rdL l 0) v = true) (h4 : 0 ≤ from_) (h5 : from_ < l.length) :
    Calls Tryz.prog 30 #[.int .i64 m, .slice A1 l.length c1, .agg #[.slice A2 g.length c2], .slice A3 v.length c3, .int .i64 from_] w fun e w' => ∃ A4 c4, e = .returned (.tuple #[searchV m A1 l.length c1 A2 g.length c2 A4 (keysV m l v).length c4, .bool true]) ∧ Kd.R (Kd.int .i64) 3 w' w.heap.size (fun _ => True) (.slice A4 (keysV m l v).length c4) (keysV m l v) ∧ Below w.heap.size w w' := by
  have h6 : ¬ from_ < 0 := by omega
  have h7 : ¬ (l.length : Int) ≤ from_ := by omega
  obtain ⟨hm, ⟨hl1', hl2⟩, hall⟩ := rightF_iff.1 h1
  have HKF := Aside0.mk (keys_f m hm l v (fun x hx => alike_trans (hall x hx) hal) hl2 _ (Nat.le_refl _))
  clear hm hall
  have hu := Tryz.underlying63
  have hu2 := Tryz.underlying25
  have hu3 := Tryz.underlying65
  have HC := Aside0.mk (fun w (hr : Kd.C (Kd.slice 3 (Kd.int .i64)) w A1 l.length l) => graph_space_isRight.calls m A1 c1 l _ w hr hc1 rfl)
  have HL := Aside0.mk hr1
  have HG := Aside0.mk hr2
  have HV := Aside0.mk hr3
  have HGC := Aside0.mk hc2
  have HVC := Aside0.mk hc3
  clear hr1 hr2 hr3 hc2 hc3
  rw [h1] at HC
  clear h1
  obtain ⟨k, hk⟩ := h2
  have HVD := Aside0.mk (fun w (hr : Kd.C k61 w A2 g.length g) => graph_Valid.calls k l.length A2 c2 g _ w hr HGC.out hk)
  clear hk
  have hl1 : 1 ≤ l.length := h0
  clear h0
  go_enter Tryz.func30, Tryz.ntmps30
  go_wp2_with fail
  refine (HC.out _ (Kd.C_alloc (Kd.C_alloc (Kd.C_alloc HL.out _) _) _)).mono ?_
  rintro e w1 ⟨rfl, hb⟩
  have G0 := Aside0.mk (blk_below (blk_alloc (blk_alloc (blk_new w (.cells #[.slice A2 g.length c2] 25)) _) _) hb)
  have G1 := Aside0.mk (blk_below (blk_alloc (blk_new (w.alloc (.cells #[.slice A2 g.length c2] 25)) (.cells #[.int .i64 0, .slice none 0 0, .slice none 0 0, .slice none 0 0] 65)) _) hb)
  have G2 := Aside0.mk (blk_below (blk_new ((w.alloc (.cells #[.slice A2 g.length c2] 25)).alloc (.cells #[.int .i64 0, .slice none 0 0, .slice none 0 0, .slice none 0 0] 65)) (.cells #[.int .i64 m, .slice A1 l.length c1, .slice A2 g.length c2, .slice none 0 0] 65)) hb)
  simp only [World.size_alloc, Nat.add_assoc, Nat.reduceAdd] at G1 G2
  have HB := Aside0.mk (below_step (below_alloc (below_alloc (below_alloc (Below.refl _ w) _) _) _) hb)
  have K1 := Aside0.mk (Kd.C_below (Kd.C_alloc (Kd.C_alloc (Kd.C_alloc HL.out _) _) _) hb)
  have K2 := Aside0.mk (Kd.C_below (Kd.C_alloc (Kd.C_alloc (Kd.C_alloc HG.out _) _) _) hb)
  have K3 := Aside0.mk (Kd.C_below (Kd.C_alloc (Kd.C_alloc (Kd.C_alloc HV.out _) _) _) hb)
  clear hb HL HG HV
  have c0 : w1.cell? ⟨w.heap.size, 0, none⟩ = some (.slice A2 g.length c2) := by simp [World.cell?, G0.out]
  have r0 : w1.cell? ⟨w.heap.size + 1, 0, none⟩ = some (.int .i64 0) := by simp [World.cell?, G1.out]
  have r1 : w1.cell? ⟨w.heap.size + 1, 1, none⟩ = some (.slice none 0 0) := by simp [World.cell?, G1.out]
  have r2 : w1.cell? ⟨w.heap.size + 1, 2, none⟩ = some (.slice none 0 0) := by simp [World.cell?, G1.out]
  have r3 : w1.cell? ⟨w.heap.size + 1, 3, none⟩ = some (.slice none 0 0) := by simp [World.cell?, G1.out]
  have q0 : w1.frozen? ⟨w.heap.size + 1, 0, none⟩ = false := by simp [World.frozen?, G1.out]
  have q1 : w1.frozen? ⟨w.heap.size + 1, 1, none⟩ = false := by simp [World.frozen?, G1.out]
  have q2 : w1.frozen? ⟨w.heap.size + 1, 2, none⟩ = false := by simp [World.frozen?, G1.out]
  have q3 : w1.frozen? ⟨w.heap.size + 1, 3, none⟩ = false := by simp [World.frozen?, G1.out]
  have s0 : w1.cell? ⟨w.heap.size + 2, 0, none⟩ = some (.int .i64 m) := by simp [World.cell?, G2.out]
  have s1 : w1.cell? ⟨w.heap.size + 2, 1, none⟩ = some (.slice A1 l.length c1) := by simp [World.cell?, G2.out]
  have s2 : w1.cell? ⟨w.heap.size + 2, 2, none⟩ = some (.slice A2 g.length c2) := by simp [World.cell?, G2.out]
  have s3 : w1.cell? ⟨w.heap.size + 2, 3, none⟩ = some (.slice none 0 0) := by simp [World.cell?, G2.out]
  have p3 : w1.frozen? ⟨w.heap.size + 2, 3, none⟩ = false := by simp [World.frozen?, G2.out]
  go_wp2_with fail
  refine (HVD.out _ K2.out).mono ?_
  rintro e w2 ⟨rfl, hb⟩
  replace G0 := Aside0.mk (blk_below G0.out hb)
  replace G1 := Aside0.mk (blk_below G1.out hb)
  replace G2 := Aside0.mk (blk_below G2.out hb)
  replace K1 := Aside0.mk (Kd.C_below K1.out hb)
  replace K2 := Aside0.mk (Kd.C_below K2.out hb)
  replace K3 := Aside0.mk (Kd.C_below K3.out hb)
  replace HB := Aside0.mk (below_step HB.out hb)
  clear hb HVD
  clear c0 r0 r1 r2 r3 q0 q1 q2 q3 s0 s1 s2 s3 p3
  have c0 : w2.cell? ⟨w.heap.size, 0, none⟩ = some (.slice A2 g.length c2) := by simp [World.cell?, G0.out]
  have r0 : w2.cell? ⟨w.heap.size + 1, 0, none⟩ = some (.int .i64 0) := by simp [World.cell?, G1.out]
  have r1 : w2.cell? ⟨w.heap.size + 1, 1, none⟩ = some (.slice none 0 0) := by simp [World.cell?, G1.out]
  have r2 : w2.cell? ⟨w.heap.size + 1, 2, none⟩ = some (.slice none 0 0) := by simp [World.cell?, G1.out]
  have r3 : w2.cell? ⟨w.heap.size + 1, 3, none⟩ = some (.slice none 0 0) := by simp [World.cell?, G1.out]
  have q0 : w2.frozen? ⟨w.heap.size + 1, 0, none⟩ = false := by simp [World.frozen?, G1.out]
  have q1 : w2.frozen? ⟨w.heap.size + 1, 1, none⟩ = false := by simp [World.frozen?, G1.out]
  have q2 : w2.frozen? ⟨w.heap.size + 1, 2, none⟩ = false := by simp [World.frozen?, G1.out]
  have q3 : w2.frozen? ⟨w.heap.size + 1, 3, none⟩ = false := by simp [World.frozen?, G1.out]
  have s0 : w2.cell? ⟨w.heap.size + 2, 0, none⟩ = some (.int .i64 m) := by simp [World.cell?, G2.out]
  have s1 : w2.cell? ⟨w.heap.size + 2, 1, none⟩ = some (.slice A1 l.length c1) := by simp [World.cell?, G2.out]
  have s2 : w2.cell? ⟨w.heap.size + 2, 2, none⟩ = some (.slice A2 g.length c2) := by simp [World.cell?, G2.out]
  have s3 : w2.cell? ⟨w.heap.size + 2, 3, none⟩ = some (.slice none 0 0) := by simp [World.cell?, G2.out]
  have p3 : w2.frozen? ⟨w.heap.size + 2, 3, none⟩ = false := by simp [World.frozen?, G2.out]
  obtain ⟨ad, A0, ca, rfl, hx, hlc, hi⟩ := at_rows K1.out 0 (by omega) (by omega)
  have hx : w2.cell? ad = some (.slice A0 (rdL l 0).length ca) := by simpa [Addr.add] using hx
  have hpos : (0 : Int) < (l.length : Int) := by omega
  have HAK := Aside0.mk (vector_Alike.calls A0 ca (rdL l 0) A3 c3 v _ w2 hi hlc K3.out HVC.out (alike_f _ _))
  clear hi hlc
  rw [hal] at HAK
  go_wp2_with fail
  refine HAK.out.mono ?_
  rintro e w3 ⟨rfl, hd⟩
  obtain ⟨nq, rfl⟩ := hd.out
  clear hd HAK hx
  replace G0 := Aside0.mk (blk_drewN G0.out nq)
  replace G1 := Aside0.mk (blk_drewN G1.out nq)
  replace G2 := Aside0.mk (blk_drewN G2.out nq)
  replace K1 := Aside0.mk (Kd.C_drewN K1.out nq)
  replace K3 := Aside0.mk (Kd.C_drewN K3.out nq)
  replace HB := Aside0.mk (pw_below_drewN HB.out nq)
  clear hal
  generalize w2.drewN nq = w3 at G0 G1 G2 K1 K3 HB ⊢
  clear c0 r0 r1 r2 r3 q0 q1 q2 q3 s0 s1 s2 s3 p3
  have c0 : w3.cell? ⟨w.heap.size, 0, none⟩ = some (.slice A2 g.length c2) := by simp [World.cell?, G0.out]
  have r0 : w3.cell? ⟨w.heap.size + 1, 0, none⟩ = some (.int .i64 0) := by simp [World.cell?, G1.out]
  have r1 : w3.cell? ⟨w.heap.size + 1, 1, none⟩ = some (.slice none 0 0) := by simp [World.cell?, G1.out]
  have r2 : w3.cell? ⟨w.heap.size + 1, 2, none⟩ = some (.slice none 0 0) := by simp [World.cell?, G1.out]
  have r3 : w3.cell? ⟨w.heap.size + 1, 3, none⟩ = some (.slice none 0 0) := by simp [World.cell?, G1.out]
  have q0 : w3.frozen? ⟨w.heap.size + 1, 0, none⟩ = false := by simp [World.frozen?, G1.out]
  have q1 : w3.frozen? ⟨w.heap.size + 1, 1, none⟩ = false := by simp [World.frozen?, G1.out]
  have q2 : w3.frozen? ⟨w.heap.size + 1, 2, none⟩ = false := by simp [World.frozen?, G1.out]
  have q3 : w3.frozen? ⟨w.heap.size + 1, 3, none⟩ = false := by simp [World.frozen?, G1.out]
  have s0 : w3.cell? ⟨w.heap.size + 2, 0, none⟩ = some (.int .i64 m) := by simp [World.cell?, G2.out]
  have s1 : w3.cell? ⟨w.heap.size + 2, 1, none⟩ = some (.slice (some ad) l.length c1) := by simp [World.cell?, G2.out]
  have s2 : w3.cell? ⟨w.heap.size + 2, 2, none⟩ = some (.slice A2 g.length c2) := by simp [World.cell?, G2.out]
  have s3 : w3.cell? ⟨w.heap.size + 2, 3, none⟩ = some (.slice none 0 0) := by simp [World.cell?, G2.out]
  have p3 : w3.frozen? ⟨w.heap.size + 2, 3, none⟩ = false := by simp [World.frozen?, G2.out]
  have HKC := Aside0.mk (graph_space_keys.calls _ m _ c1 l A3 c3 v _ w3 K1.out hc1 K3.out HVC.out HKF.out)
  clear HKF
  go_wp2_with fail
  refine HKC.out.mono ?_
  rintro e w4 ⟨v4, rfl, hk4, hb⟩
  obtain ⟨A4, c4, rfl⟩ := Kd.R_slice hk4
  replace G0 := Aside0.mk (blk_below G0.out hb)
  replace G1 := Aside0.mk (blk_below G1.out hb)
  replace G2 := Aside0.mk (blk_below G2.out hb)
  have HK4 := Aside0.mk (Kd.R_lower hk4 HB.out.size)
  replace HB := Aside0.mk (below_step HB.out hb)
  clear hb hk4 HKC K1 K2 K3
  clear c0 r0 r1 r2 r3 q0 q1 q2 q3 s0 s1 s2 s3 p3
  have c0 : w4.cell? ⟨w.heap.size, 0, none⟩ = some (.slice A2 g.length c2) := by simp [World.cell?, G0.out]
  have r0 : w4.cell? ⟨w.heap.size + 1, 0, none⟩ = some (.int .i64 0) := by simp [World.cell?, G1.out]
  have r1 : w4.cell? ⟨w.heap.size + 1, 1, none⟩ = some (.slice none 0 0) := by simp [World.cell?, G1.out]
  have r2 : w4.cell? ⟨w.heap.size + 1, 2, none⟩ = some (.slice none 0 0) := by simp [World.cell?, G1.out]
  have r3 : w4.cell? ⟨w.heap.size + 1, 3, none⟩ = some (.slice none 0 0) := by simp [World.cell?, G1.out]
  have q0 : w4.frozen? ⟨w.heap.size + 1, 0, none⟩ = false := by simp [World.frozen?, G1.out]
  have q1 : w4.frozen? ⟨w.heap.size + 1, 1, none⟩ = false := by simp [World.frozen?, G1.out]
  have q2 : w4.frozen? ⟨w.heap.size + 1, 2, none⟩ = false := by simp [World.frozen?, G1.out]
  have q3 : w4.frozen? ⟨w.heap.size + 1, 3, none⟩ = false := by simp [World.frozen?, G1.out]
  have s0 : w4.cell? ⟨w.heap.size + 2, 0, none⟩ = some (.int .i64 m) := by simp [World.cell?, G2.out]
  have s1 : w4.cell? ⟨w.heap.size + 2, 1, none⟩ = some (.slice (some ad) l.length c1) := by simp [World.cell?, G2.out]
  have s2 : w4.cell? ⟨w.heap.size + 2, 2, none⟩ = some (.slice A2 g.length c2) := by simp [World.cell?, G2.out]
  have s3 : w4.cell? ⟨w.heap.size + 2, 3, none⟩ = some (.slice none 0 0) := by simp [World.cell?, G2.out]
  have p3 : w4.frozen? ⟨w.heap.size + 2, 3, none⟩ = false := by simp [World.frozen?, G2.out]
  go_wp2
  refine bodyPost_ret (results_ct rfl _ _ (w.heap.size + 1) 65 _ (0, 0) _ rfl (blk_put (cs := #[.int .i64 m, .slice (some ad) l.length c1, .slice A2 g.length c2, .slice none 0 0]) (blk_put (cs := #[.int .i64 m, .slice (some ad) l.length c1, .slice none 0 0, .slice none 0 0]) (blk_put (cs := #[.int .i64 m, .slice none 0 0, .slice none 0 0, .slice none 0 0]) (blk_put (cs := #[.int .i64 0, .slice none 0 0, .slice none 0 0, .slice none 0 0]) ((Below.heap_setCell _ _ _ _ (by simp)).trans G1.out) 0 _ rfl) 1 _ rfl) 2 _ rfl) 3 _ rfl) Tryz.underlying65 rfl (by kernel_rfl)) rfl ?_
  have g2 := blk_put (cs := #[.int .i64 m, .slice (some ad) l.length c1, .slice A2 g.length c2, .slice none 0 0]) G2.out 3 (.slice A4 (keysV m l v).length c4) rfl
  refine ⟨A4, c4, rfl, ?_, ((((HB.out.setCell (p := ⟨w.heap.size + 2, 3, none⟩) (by simp) _).setCell (p := ⟨w.heap.size + 1, 0, none⟩) (by simp) _).setCell (p := ⟨w.heap.size + 1, 1, none⟩) (by simp) _).setCell (p := ⟨w.heap.size + 1, 2, none⟩) (by simp) _).setCell (p := ⟨w.heap.size + 1, 3, none⟩) (by simp) _⟩
  have gA := (Below.heap_setCell w4 ⟨w.heap.size + 2, 3, none⟩ (.slice A4 (keysV m l v).length c4) (w.heap.size + 1) (by simp)).trans G1.out
  refine Kd.R_set (Kd.R_set (Kd.R_set (Kd.R_set (Kd.R_set HK4.out G2.out (by decide) 3 _) gA (by decide) 0 _) (blk_put gA 0 _ rfl) (by decide) 1 _) (blk_put (blk_put gA 0 _ rfl) 1 _ rfl) (by decide) 2 _) (blk_put (blk_put (blk_put gA 0 _ rfl) 1 _ rfl) 2 _ rfl) (by decide) 3 _
def cmp_Or_int.l0 : Nat → Int → List Int → Int → Int → Option (Int)
  | 0, _, _, _, _ => none
  | k + 1, x3, x6, x7, x8 => if x8 < x7 then (if 0 ≤ x8 then (if x8 < (x6.length : Int) then (if (rd x6 x8) = x3 then (cmp_Or_int.l0 k x3 x6 x7 (wrap64 (x8 + 1))) else (some (rd x6 x8))) else (none)) else (none)) else (some x3)
def cmp_Or_int.f (k : Nat) (l0 : List Int) : Option (Int) := cmp_Or_int.l0 k 0 l0 (l0.length : Int) 0
theorem cmp_Or_int.mono_l : ∀ k, (∀ y0 y1 y2 y3, LeO (cmp_Or_int.l0 k y0 y1 y2 y3) (cmp_Or_int.l0 (k + 1) y0 y1 y2 y3))
  | 0 => fun _ _ _ _ r h => by simp [cmp_Or_int.l0] at h
  | k + 1 => by
    have ih0 := cmp_Or_int.mono_l k
    · intro y0 y1 y2 y3
      unfold cmp_Or_int.l0
      repeat' first
      | (with_reducible exact ih0 _ _ _ _)
      | (with_reducible exact LeO.refl _)
      | (with_reducible exact LeO.none _)
      | (with_reducible refine LeO.ite ?_ ?_)
      | (with_reducible refine LeO.bind ?_ (fun _ => ?_))
      | exact ih0 _ _ _ _
      | exact LeO.none _
      | refine LeO.ite ?_ ?_
      | refine LeO.bind ?_ (fun _ => ?_)
set_option maxHeartbeats 8000000 in
set_option maxRecDepth 100000 in
theorem cmp_Or_int.calls (k : Nat) (A0 : Option Addr) (c0 : Nat) (l0 : List Int) (r : Int) (w : World) (hr0 : Kd.C (Kd.int .i64) w A0 l0.length l0) (hc0 : l0.length ≤ c0) (h : cmp_Or_int.f k l0 = some r) :
    Calls Tryz.prog 61 #[.slice A0 l0.length c0] w fun e w' => e = .returned (.int .i64 r) ∧ Drawn0 w w' := by
  have HR0 := Aside0.mk hr0
  have HC0 := Aside0.mk hc0
  clear hr0 hc0
  have H : (cmp_Or_int.l0 k 0 l0 (l0.length : Int) 0) = some r := h
  clear h
  have H' := Aside0.mk H
  clear H
  go_enter Tryz.func61, Tryz.ntmps61
  go_wp2
  go_loopg [8] k (fun kq v8 w' => ∃ (x8_1 : Int), v8 = .int .i64 x8_1 ∧ Aside0 (cmp_Or_int.l0 kq 0 l0 (l0.length : Int) x8_1 = some r) ∧ Aside0 (kq ≤ k) ∧ Drawn0 w w')
  case atStart => exact ⟨(0), (by first | rfl | (simp; done) | (simp [*]; done)), H', ⟨Nat.le_refl _⟩, by repeat (first | exact Drawn0.refl _ | apply Drawn0.step)⟩
  case round =>
    clear H'
    obtain ⟨x8_1, rfl, HA, HK1, ⟨m1, rfl⟩⟩ := hrel
    cases gk with
    | zero => exact absurd HA.out (by simp [cmp_Or_int.l0])
    | succ k1 =>
      have H := HA.out
      clear HA
      simp only [cmp_Or_int.l0] at H
      by_cases c2 : x8_1 < (l0.length : Int)
      · rw [if_pos c2] at H
        have c2b0 : decide (x8_1 < (l0.length : Int)) = true := decide_eq_true c2
        clear c2
        by_cases c3 : 0 ≤ x8_1
        · rw [if_pos c3] at H
          have c3b0 : decide (0 ≤ x8_1) = true := decide_eq_true c3
          clear c3
          by_cases c4 : x8_1 < (l0.length : Int)
          · rw [if_pos c4] at H
            have c4b0 : decide (x8_1 < (l0.length : Int)) = true := decide_eq_true c4
            clear c4
            by_cases c5 : (rd l0 x8_1) = 0
            · rw [if_pos c5] at H
              have c5b0 : ((rd l0 x8_1) == 0) = true := beq_iff_eq.mpr c5
              have c5b1 : ((rd l0 x8_1) != 0) = false := bne_eq_false_iff_eq.mpr c5
              clear c5
              have H' := Aside0.mk H
              clear H
              have p118 : 0 ≤ (x8_1 : Int) := of_decide_eq_true (by first | (with_reducible assumption) | assumption)
              have q118 : x8_1 < (l0.length : Int) := of_decide_eq_true (by first | (with_reducible assumption) | assumption)
              obtain ⟨ad118, e118, hx118_0⟩ := Kd.at_int HR0.out x8_1 p118 q118
              cases e118
              replace p118 := eq_true p118
              replace q118 := eq_true q118
              go_wp2
              go_roundg k1
              case measure => have := HK1.out; omega
              case rel => exact ⟨(wrap64 (x8_1 + 1)), (by first | rfl | (simp; done) | (simp [*]; done)), H', ⟨by have := HK1.out; omega⟩, by repeat (first | exact Drawn0.refl _ | apply Drawn0.step)⟩
            · rw [if_neg c5] at H
              have c5b0 : ((rd l0 x8_1) == 0) = false := beq_eq_false_iff_ne.mpr c5
              have c5b1 : ((rd l0 x8_1) != 0) = true := bne_iff_ne.mpr c5
              obtain rfl := Option.some.inj H
              have p118 : 0 ≤ (x8_1 : Int) := of_decide_eq_true (by first | (with_reducible assumption) | assumption)
              have q118 : x8_1 < (l0.length : Int) := of_decide_eq_true (by first | (with_reducible assumption) | assumption)
              obtain ⟨ad118, e118, hx118_0⟩ := Kd.at_int HR0.out x8_1 p118 q118
              cases e118
              replace p118 := eq_true p118
              replace q118 := eq_true q118
              go_wp2
              go_ret
              exact ⟨by first | rfl | (simp; done) | (simp [*]; done), by repeat (first | exact Drawn0.refl _ | apply Drawn0.step)⟩
          · rw [if_neg c4] at H
            exact absurd H (by simp)
        · rw [if_neg c3] at H
          exact absurd H (by simp)
      · rw [if_neg c2] at H
        have c2b0 : decide (x8_1 < (l0.length : Int)) = false := decide_eq_false c2
        clear c2
        obtain rfl := Option.some.inj H
        go_wp2
        go_ret
        exact ⟨by first | rfl | (simp; done) | (simp [*]; done), by repeat (first | exact Drawn0.refl _ | apply Drawn0.step)⟩
def antiquaryref27_Same.l0 : Nat → List Int → List Int → Int → Option (Bool)
  | 0, _, _, _ => none
  | k + 1, x0, x1, x5 => if x5 < (x0.length : Int) then (if 0 ≤ x5 then (if x5 < (x1.length : Int) then (if (rd x0 x5) = (rd x1 x5) then (antiquaryref27_Same.l0 k x0 x1 (wrap64 (x5 + 1))) else (some false)) else (none)) else (none)) else (some true)
def antiquaryref27_Same.f (k : Nat) (l0 : List Int) (l1 : List Int) : Option (Bool) := if (l0.length : Int) = (l1.length : Int) then (antiquaryref27_Same.l0 k l0 l1 0) else (some false)
set_option maxHeartbeats 8000000 in
set_option maxRecDepth 100000 in
theorem antiquaryref27_Same.calls (k : Nat) (A0 : Option Addr) (c0 : Nat) (l0 : List Int) (A1 : Option Addr) (c1 : Nat) (l1 : List Int) (r : Bool) (w : World) (hr0 : Kd.C (Kd.int .i64) w A0 l0.length l0) (hc0 : l0.length ≤ c0) (hr1 : Kd.C (Kd.int .i64) w A1 l1.length l1) (hc1 : l1.length ≤ c1) (h : antiquaryref27_Same.f k l0 l1 = some r) :
    Calls Tryz.prog 15 #[.slice A0 l0.length c0, .slice A1 l1.length c1] w fun e w' => e = .returned (.bool r) ∧ Drawn0 w w' := by
  have HR0 := Aside0.mk hr0
  have HC0 := Aside0.mk hc0
  clear hr0 hc0
  have HR1 := Aside0.mk hr1
  have HC1 := Aside0.mk hc1
  clear hr1 hc1
  have H : (if (l0.length : Int) = (l1.length : Int) then (antiquaryref27_Same.l0 k l0 l1 0) else (some false)) = some r := h
  clear h
  by_cases c3 : (l0.length : Int) = (l1.length : Int)
  · rw [if_pos c3] at H
    have c3b0 : ((l0.length : Int) == (l1.length : Int)) = true := beq_iff_eq.mpr c3
    have c3b1 : ((l0.length : Int) != (l1.length : Int)) = false := bne_eq_false_iff_eq.mpr c3
    have c3b2 : (l0.length == l1.length) = true := by first | simpa using c3 | (simp at c3 ⊢; omega)
    clear c3
    have H' := Aside0.mk H
    clear H
    go_enter Tryz.func15, Tryz.ntmps15
    go_wp2
    repeat (go_quiet (fail); try go_wp2)
    go_loopg [5] k (fun kq v5 w' => ∃ (x5_1 : Int), v5 = .int .i64 x5_1 ∧ Aside0 (antiquaryref27_Same.l0 kq l0 l1 x5_1 = some r) ∧ Aside0 (kq ≤ k) ∧ Drawn0 w w')
    case atStart => exact ⟨(0), (by first | rfl | (simp; done) | (simp [*]; done)), H', ⟨Nat.le_refl _⟩, by repeat (first | exact Drawn0.refl _ | apply Drawn0.step)⟩
    case round =>
      clear H'
      try clear c1
      try clear p2
      try clear c3
      try clear c3b0
      try clear c3b1
      try clear c3b2
      obtain ⟨x5_1, rfl, HA, HK1, ⟨m1, rfl⟩⟩ := hrel
      cases gk with
      | zero => exact absurd HA.out (by simp [antiquaryref27_Same.l0])
      | succ k1 =>
        have H := HA.out
        clear HA
        simp only [antiquaryref27_Same.l0] at H
        by_cases c4 : x5_1 < (l0.length : Int)
        · rw [if_pos c4] at H
          have c4b0 : decide (x5_1 < (l0.length : Int)) = true := decide_eq_true c4
          clear c4
          by_cases c5 : 0 ≤ x5_1
          · rw [if_pos c5] at H
            have c5b0 : decide (0 ≤ x5_1) = true := decide_eq_true c5
            clear c5
            by_cases c6 : x5_1 < (l1.length : Int)
            · rw [if_pos c6] at H
              have c6b0 : decide (x5_1 < (l1.length : Int)) = true := decide_eq_true c6
              clear c6
              by_cases c7 : (rd l0 x5_1) = (rd l1 x5_1)
              · rw [if_pos c7] at H
                have c7b0 : ((rd l0 x5_1) == (rd l1 x5_1)) = true := beq_iff_eq.mpr c7
                have c7b1 : ((rd l0 x5_1) != (rd l1 x5_1)) = false := bne_eq_false_iff_eq.mpr c7
                clear c7
                have H' := Aside0.mk H
                clear H
                have p119 : 0 ≤ (x5_1 : Int) := of_decide_eq_true (by first | (with_reducible assumption) | assumption)
                have q119 : x5_1 < (l0.length : Int) := of_decide_eq_true (by first | (with_reducible assumption) | assumption)
                obtain ⟨ad119, e119, hx119_0⟩ := Kd.at_int HR0.out x5_1 p119 q119
                cases e119
                replace p119 := eq_true p119
                replace q119 := eq_true q119
                have p120 : 0 ≤ (x5_1 : Int) := of_decide_eq_true (by first | (with_reducible assumption) | assumption)
                have q120 : x5_1 < (l1.length : Int) := of_decide_eq_true (by first | (with_reducible assumption) | assumption)
                obtain ⟨ad120, e120, hx120_0⟩ := Kd.at_int HR1.out x5_1 p120 q120
                cases e120
                replace p120 := eq_true p120
                replace q120 := eq_true q120
                go_wp2
                repeat (go_quiet (fail); try go_wp2)
                go_roundg k1
                case measure => have := HK1.out; omega
                case rel => exact ⟨(wrap64 (x5_1 + 1)), (by first | rfl | (simp; done) | (simp [*]; done)), H', ⟨by have := HK1.out; omega⟩, by repeat (first | exact Drawn0.refl _ | apply Drawn0.step)⟩
              · rw [if_neg c7] at H
                have c7b0 : ((rd l0 x5_1) == (rd l1 x5_1)) = false := beq_eq_false_iff_ne.mpr c7
                have c7b1 : ((rd l0 x5_1) != (rd l1 x5_1)) = true := bne_iff_ne.mpr c7
                obtain rfl := Option.some.inj H
                have p119 : 0 ≤ (x5_1 : Int) := of_decide_eq_true (by first | (with_reducible assumption) | assumption)
                have q119 : x5_1 < (l0.length : Int) := of_decide_eq_true (by first | (with_reducible assumption) | assumption)
                obtain ⟨ad119, e119, hx119_0⟩ := Kd.at_int HR0.out x5_1 p119 q119
                cases e119
                replace p119 := eq_true p119
                replace q119 := eq_true q119
                have p120 : 0 ≤ (x5_1 : Int) := of_decide_eq_true (by first | (with_reducible assumption) | assumption)
                have q120 : x5_1 < (l1.length : Int) := of_decide_eq_true (by first | (with_reducible assumption) | assumption)
                obtain ⟨ad120, e120, hx120_0⟩ := Kd.at_int HR1.out x5_1 p120 q120
                cases e120
                replace p120 := eq_true p120
                replace q120 := eq_true q120
                go_wp2
                repeat (go_quiet (fail); try go_wp2)
                go_ret
                exact ⟨by first | rfl | (simp; done) | (simp [*]; done), by repeat (first | exact Drawn0.refl _ | apply Drawn0.step)⟩
            · rw [if_neg c6] at H
              exact absurd H (by simp)
          · rw [if_neg c5] at H
            exact absurd H (by simp)
        · rw [if_neg c4] at H
          have c4b0 : decide (x5_1 < (l0.length : Int)) = false := decide_eq_false c4
          clear c4
          obtain rfl := Option.some.inj H
          go_wp2
          repeat (go_quiet (fail); try go_wp2)
          go_ret
          exact ⟨by first | rfl | (simp; done) | (simp [*]; done), by repeat (first | exact Drawn0.refl _ | apply Drawn0.step)⟩
  · rw [if_neg c3] at H
    have c3b0 : ((l0.length : Int) == (l1.length : Int)) = false := beq_eq_false_iff_ne.mpr c3
    have c3b1 : ((l0.length : Int) != (l1.length : Int)) = true := bne_iff_ne.mpr c3
    have c3b2 : (l0.length == l1.length) = false := by first | simpa using c3 | (simp at c3 ⊢; omega)
    obtain rfl := Option.some.inj H
    go_enter Tryz.func15, Tryz.ntmps15
    go_wp2
    repeat (go_quiet (fail); try go_wp2)
    go_ret
    exact ⟨by first | rfl | (simp; done) | (simp [*]; done), by repeat (first | exact Drawn0.refl _ | apply Drawn0.step)⟩
def antiquaryref27_SameGraph.l0 : Nat → Int → List (S61) → List (S61) → Option (Bool)
  | 0, _, _, _ => none
  | k + 1, x5, x122000, x123000 => if x5 < (x122000.length : Int) then (if 0 ≤ x5 then (if x5 < (x123000.length : Int) then (if ((rd_T61 x122000 x5).f0) = ((rd_T61 x123000 x5).f0) then ((antiquaryref27_Same.f k ((rd_T61 x122000 x5).f1) ((rd_T61 x123000 x5).f1)).bind fun t127 => (if t127 = true then (antiquaryref27_SameGraph.l0 k (wrap64 (x5 + 1)) x122000 x123000) else (some false))) else (some false)) else (none)) else (none)) else (some true)
def antiquaryref27_SameGraph.f (k : Nat) (l0_0 : List (S61)) (l1_0 : List (S61)) : Option (Bool) := if (l0_0.length : Int) = (l1_0.length : Int) then (antiquaryref27_SameGraph.l0 k 0 l0_0 l1_0) else (some false)
set_option maxHeartbeats 8000000 in
set_option maxRecDepth 100000 in
theorem antiquaryref27_SameGraph.calls (k : Nat) (A0_0 : Option Addr) (c0_0 : Nat) (l0_0 : List (S61)) (A1_0 : Option Addr) (c1_0 : Nat) (l1_0 : List (S61)) (r : Bool) (w : World) (hr0_0 : Kd.C k61 w A0_0 l0_0.length l0_0) (hc0_0 : l0_0.length ≤ c0_0) (hr1_0 : Kd.C k61 w A1_0 l1_0.length l1_0) (hc1_0 : l1_0.length ≤ c1_0) (h : antiquaryref27_SameGraph.f k l0_0 l1_0 = some r) :
    Calls Tryz.prog 23 #[.agg #[.slice A0_0 l0_0.length c0_0], .agg #[.slice A1_0 l1_0.length c1_0]] w fun e w' => e = .returned (.bool r) ∧ Below w.heap.size w w' := by
  have hu25 := Tryz.underlying25
  have HR0_0 := Aside0.mk hr0_0
  have HC0_0 := Aside0.mk hc0_0
  clear hr0_0 hc0_0
  have HR1_0 := Aside0.mk hr1_0
  have HC1_0 := Aside0.mk hc1_0
  clear hr1_0 hc1_0
  have HB := Aside0.mk (Below.refl w.heap.size w)
  have H : (if (l0_0.length : Int) = (l1_0.length : Int) then (antiquaryref27_SameGraph.l0 k 0 l0_0 l1_0) else (some false)) = some r := h
  clear h
  by_cases c3 : (l0_0.length : Int) = (l1_0.length : Int)
  · rw [if_pos c3] at H
    have c3b0 : ((l0_0.length : Int) == (l1_0.length : Int)) = true := beq_iff_eq.mpr c3
    have c3b1 : ((l0_0.length : Int) != (l1_0.length : Int)) = false := bne_eq_false_iff_eq.mpr c3
    have c3b2 : (l0_0.length == l1_0.length) = true := by first | simpa using c3 | (simp at c3 ⊢; omega)
    clear c3
    have H' := Aside0.mk H
    clear H
    go_enter Tryz.func23, Tryz.ntmps23
    go_wp2_with (first | ((with_reducible refine gate_dst (N := 2) rfl ?_); refine box_event ?hg (N := 2) ?hd (cs := #[.slice A0_0 l0_0.length c0_0]) (t := 25) ?hr ?_; (case hd => rfl); (case hg => rfl); (case hr => first | (go_simp; done) | (go_simp; rfl)); intro gb121 hg w4 hbox hb; have n0_ := Aside0.mk (below_step (by repeat (first | (with_reducible first | exact HB.out | apply below_alloc | apply pw_below_drewN | apply below_drew1) | exact HB.out)) hb); have n1_ := Aside0.mk (hbox); have n2_ := Aside0.mk ((by rw [hg]; exact (below_size (by repeat (first | (with_reducible first | exact HB.out | apply below_alloc | apply pw_below_drewN | apply below_drew1) | exact HB.out))) : w.heap.size ≤ gb121)); have n3_ := Aside0.mk ((by rw [hg]; exact (below_size (by repeat (first | (with_reducible first | exact HB.out | apply below_alloc | apply pw_below_drewN | apply below_drew1) | exact HB.out))) : w.heap.size ≤ gb121)); clear HB; have HB := n0_; have BK121 := n1_; have GW121 := n2_; have GE121 := n3_; clear n0_ n1_ n2_ n3_; clear hb hbox hg) | ((with_reducible refine gate_dst (N := 3) rfl ?_); refine box_event ?hg (N := 3) ?hd (cs := #[.slice A1_0 l1_0.length c1_0]) (t := 25) ?hr ?_; (case hd => rfl); (case hg => rfl); (case hr => first | (go_simp; done) | (go_simp; rfl)); intro gb122 hg w5 hbox hb; have n0_ := Aside0.mk (blk_below (g := gb121) (o := .cells #[.slice A0_0 l0_0.length c0_0] 25 (0, 0)) (by (with_reducible repeat (first | refine blk_drewN ?_ _ | refine blk_drew ?_ | refine blk_alloc ?_ _)); exact BK121.out) hb); have n1_ := Aside0.mk (below_step (by repeat (first | (with_reducible first | exact HB.out | apply below_alloc | apply pw_below_drewN | apply below_drew1 | refine below_set ?_ GE121.out) | exact HB.out)) hb); have n2_ := Aside0.mk (hbox); have n3_ := Aside0.mk ((by rw [hg]; exact (below_size (by repeat (first | (with_reducible first | exact HB.out | apply below_alloc | apply pw_below_drewN | apply below_drew1 | refine below_set ?_ GE121.out) | exact HB.out))) : w.heap.size ≤ gb122)); have n4_ := Aside0.mk ((by rw [hg]; exact (below_size (by repeat (first | (with_reducible first | exact HB.out | apply below_alloc | apply pw_below_drewN | apply below_drew1 | refine below_set ?_ GE121.out) | exact HB.out))) : w.heap.size ≤ gb122)); have n5_ := Aside0.mk ((by rw [hg]; exact Nat.ne_of_lt (blk_lt (g := gb121) (o := .cells #[.slice A0_0 l0_0.length c0_0] 25 (0, 0)) (by (with_reducible repeat (first | refine blk_drewN ?_ _ | refine blk_drew ?_ | refine blk_alloc ?_ _)); exact BK121.out)) : gb121 ≠ gb122)); have n6_ := Aside0.mk ((by rw [hg]; exact Nat.ne_of_gt (blk_lt (g := gb121) (o := .cells #[.slice A0_0 l0_0.length c0_0] 25 (0, 0)) (by (with_reducible repeat (first | refine blk_drewN ?_ _ | refine blk_drew ?_ | refine blk_alloc ?_ _)); exact BK121.out)) : gb122 ≠ gb121)); clear BK121; clear HB; have BK121 := n0_; have HB := n1_; have BK122 := n2_; have GW122 := n3_; have GE122 := n4_; have NB121_122 := n5_; have NB122_121 := n6_; clear n0_ n1_ n2_ n3_ n4_ n5_ n6_; clear hb hbox hg; have hnb6 := NB121_122.out; have hnc6 := NB122_121.out; have hcz7_0 : w5.cell? ⟨gb121, 0, none⟩ = some (.slice A0_0 l0_0.length c0_0) := (blk_cell BK121.out 0).trans rfl; have hfz7_0 := blk_frozen BK121.out 0; have hcz8_0 : w5.cell? ⟨gb122, 0, none⟩ = some (.slice A1_0 l1_0.length c1_0) := (blk_cell BK122.out 0).trans rfl; have hfz8_0 := blk_frozen BK122.out 0))
    repeat (go_quiet (first | ((with_reducible refine gate_dst (N := 2) rfl ?_); refine box_event ?hg (N := 2) ?hd (cs := #[.slice A0_0 l0_0.length c0_0]) (t := 25) ?hr ?_; (case hd => rfl); (case hg => rfl); (case hr => first | (go_simp; done) | (go_simp; rfl)); intro gb121 hg w4 hbox hb; have n0_ := Aside0.mk (below_step (by repeat (first | (with_reducible first | exact HB.out | apply below_alloc | apply pw_below_drewN | apply below_drew1) | exact HB.out)) hb); have n1_ := Aside0.mk (hbox); have n2_ := Aside0.mk ((by rw [hg]; exact (below_size (by repeat (first | (with_reducible first | exact HB.out | apply below_alloc | apply pw_below_drewN | apply below_drew1) | exact HB.out))) : w.heap.size ≤ gb121)); have n3_ := Aside0.mk ((by rw [hg]; exact (below_size (by repeat (first | (with_reducible first | exact HB.out | apply below_alloc | apply pw_below_drewN | apply below_drew1) | exact HB.out))) : w.heap.size ≤ gb121)); clear HB; have HB := n0_; have BK121 := n1_; have GW121 := n2_; have GE121 := n3_; clear n0_ n1_ n2_ n3_; clear hb hbox hg) | ((with_reducible refine gate_dst (N := 3) rfl ?_); refine box_event ?hg (N := 3) ?hd (cs := #[.slice A1_0 l1_0.length c1_0]) (t := 25) ?hr ?_; (case hd => rfl); (case hg => rfl); (case hr => first | (go_simp; done) | (go_simp; rfl)); intro gb122 hg w5 hbox hb; have n0_ := Aside0.mk (blk_below (g := gb121) (o := .cells #[.slice A0_0 l0_0.length c0_0] 25 (0, 0)) (by (with_reducible repeat (first | refine blk_drewN ?_ _ | refine blk_drew ?_ | refine blk_alloc ?_ _)); exact BK121.out) hb); have n1_ := Aside0.mk (below_step (by repeat (first | (with_reducible first | exact HB.out | apply below_alloc | apply pw_below_drewN | apply below_drew1 | refine below_set ?_ GE121.out) | exact HB.out)) hb); have n2_ := Aside0.mk (hbox); have n3_ := Aside0.mk ((by rw [hg]; exact (below_size (by repeat (first | (with_reducible first | exact HB.out | apply below_alloc | apply pw_below_drewN | apply below_drew1 | refine below_set ?_ GE121.out) | exact HB.out))) : w.heap.size ≤ gb122)); have n4_ := Aside0.mk ((by rw [hg]; exact (below_size (by repeat (first | (with_reducible first | exact HB.out | apply below_alloc | apply pw_below_drewN | apply below_drew1 | refine below_set ?_ GE121.out) | exact HB.out))) : w.heap.size ≤ gb122)); have n5_ := Aside0.mk ((by rw [hg]; exact Nat.ne_of_lt (blk_lt (g := gb121) (o := .cells #[.slice A0_0 l0_0.length c0_0] 25 (0, 0)) (by (with_reducible repeat (first | refine blk_drewN ?_ _ | refine blk_drew ?_ | refine blk_alloc ?_ _)); exact BK121.out)) : gb121 ≠ gb122)); have n6_ := Aside0.mk ((by rw [hg]; exact Nat.ne_of_gt (blk_lt (g := gb121) (o := .cells #[.slice A0_0 l0_0.length c0_0] 25 (0, 0)) (by (with_reducible repeat (first | refine blk_drewN ?_ _ | refine blk_drew ?_ | refine blk_alloc ?_ _)); exact BK121.out)) : gb122 ≠ gb121)); clear BK121; clear HB; have BK121 := n0_; have HB := n1_; have BK122 := n2_; have GW122 := n3_; have GE122 := n4_; have NB121_122 := n5_; have NB122_121 := n6_; clear n0_ n1_ n2_ n3_ n4_ n5_ n6_; clear hb hbox hg; have hnb6 := NB121_122.out; have hnc6 := NB122_121.out; have hcz7_0 : w5.cell? ⟨gb121, 0, none⟩ = some (.slice A0_0 l0_0.length c0_0) := (blk_cell BK121.out 0).trans rfl; have hfz7_0 := blk_frozen BK121.out 0; have hcz8_0 : w5.cell? ⟨gb122, 0, none⟩ = some (.slice A1_0 l1_0.length c1_0) := (blk_cell BK122.out 0).trans rfl; have hfz8_0 := blk_frozen BK122.out 0)); try go_wp2_with (first | ((with_reducible refine gate_dst (N := 2) rfl ?_); refine box_event ?hg (N := 2) ?hd (cs := #[.slice A0_0 l0_0.length c0_0]) (t := 25) ?hr ?_; (case hd => rfl); (case hg => rfl); (case hr => first | (go_simp; done) | (go_simp; rfl)); intro gb121 hg w4 hbox hb; have n0_ := Aside0.mk (below_step (by repeat (first | (with_reducible first | exact HB.out | apply below_alloc | apply pw_below_drewN | apply below_drew1) | exact HB.out)) hb); have n1_ := Aside0.mk (hbox); have n2_ := Aside0.mk ((by rw [hg]; exact (below_size (by repeat (first | (with_reducible first | exact HB.out | apply below_alloc | apply pw_below_drewN | apply below_drew1) | exact HB.out))) : w.heap.size ≤ gb121)); have n3_ := Aside0.mk ((by rw [hg]; exact (below_size (by repeat (first | (with_reducible first | exact HB.out | apply below_alloc | apply pw_below_drewN | apply below_drew1) | exact HB.out))) : w.heap.size ≤ gb121)); clear HB; have HB := n0_; have BK121 := n1_; have GW121 := n2_; have GE121 := n3_; clear n0_ n1_ n2_ n3_; clear hb hbox hg) | ((with_reducible refine gate_dst (N := 3) rfl ?_); refine box_event ?hg (N := 3) ?hd (cs := #[.slice A1_0 l1_0.length c1_0]) (t := 25) ?hr ?_; (case hd => rfl); (case hg => rfl); (case hr => first | (go_simp; done) | (go_simp; rfl)); intro gb122 hg w5 hbox hb; have n0_ := Aside0.mk (blk_below (g := gb121) (o := .cells #[.slice A0_0 l0_0.length c0_0] 25 (0, 0)) (by (with_reducible repeat (first | refine blk_drewN ?_ _ | refine blk_drew ?_ | refine blk_alloc ?_ _)); exact BK121.out) hb); have n1_ := Aside0.mk (below_step (by repeat (first | (with_reducible first | exact HB.out | apply below_alloc | apply pw_below_drewN | apply below_drew1 | refine below_set ?_ GE121.out) | exact HB.out)) hb); have n2_ := Aside0.mk (hbox); have n3_ := Aside0.mk ((by rw [hg]; exact (below_size (by repeat (first | (with_reducible first | exact HB.out | apply below_alloc | apply pw_below_drewN | apply below_drew1 | refine below_set ?_ GE121.out) | exact HB.out))) : w.heap.size ≤ gb122)); have n4_ := Aside0.mk ((by rw [hg]; exact (below_size (by repeat (first | (with_reducible first | exact HB.out | apply below_alloc | apply pw_below_drewN | apply below_drew1 | refine below_set ?_ GE121.out) | exact HB.out))) : w.heap.size ≤ gb122)); have n5_ := Aside0.mk ((by rw [hg]; exact Nat.ne_of_lt (blk_lt (g := gb121) (o := .cells #[.slice A0_0 l0_0.length c0_0] 25 (0, 0)) (by (with_reducible repeat (first | refine blk_drewN ?_ _ | refine blk_drew ?_ | refine blk_alloc ?_ _)); exact BK121.out)) : gb121 ≠ gb122)); have n6_ := Aside0.mk ((by rw [hg]; exact Nat.ne_of_gt (blk_lt (g := gb121) (o := .cells #[.slice A0_0 l0_0.length c0_0] 25 (0, 0)) (by (with_reducible repeat (first | refine blk_drewN ?_ _ | refine blk_drew ?_ | refine blk_alloc ?_ _)); exact BK121.out)) : gb122 ≠ gb121)); clear BK121; clear HB; have BK121 := n0_; have HB := n1_; have BK122 := n2_; have GW122 := n3_; have GE122 := n4_; have NB121_122 := n5_; have NB122_121 := n6_; clear n0_ n1_ n2_ n3_ n4_ n5_ n6_; clear hb hbox hg; have hnb6 := NB121_122.out; have hnc6 := NB122_121.out; have hcz7_0 : w5.cell? ⟨gb121, 0, none⟩ = some (.slice A0_0 l0_0.length c0_0) := (blk_cell BK121.out 0).trans rfl; have hfz7_0 := blk_frozen BK121.out 0; have hcz8_0 : w5.cell? ⟨gb122, 0, none⟩ = some (.slice A1_0 l1_0.length c1_0) := (blk_cell BK122.out 0).trans rfl; have hfz8_0 := blk_frozen BK122.out 0)))
    go_loopg [5] k (fun kq v5 w' => ∃ (x5_1 : Int), v5 = .int .i64 x5_1 ∧ Aside0 (antiquaryref27_SameGraph.l0 kq x5_1 l0_0 l1_0 = some r) ∧ Aside0 (kq ≤ k) ∧ Aside0 (w'.heap[gb121]? = some (.cells #[(.slice A0_0 l0_0.length c0_0)] 25 (0, 0))) ∧ Aside0 (w'.heap[gb122]? = some (.cells #[(.slice A1_0 l1_0.length c1_0)] 25 (0, 0))) ∧ Aside0 (Below w.heap.size w w'))
    case atStart => exact ⟨(0), (by first | rfl | (simp; done) | (simp [*]; done)), H', ⟨Nat.le_refl _⟩, ⟨by (with_reducible repeat (first | refine blk_drewN ?_ _ | refine blk_drew ?_ | refine blk_alloc ?_ _)); exact BK121.out⟩, ⟨by (with_reducible repeat (first | refine blk_drewN ?_ _ | refine blk_drew ?_ | refine blk_alloc ?_ _)); exact BK122.out⟩, ⟨by repeat (first | (with_reducible first | exact HB.out | apply below_alloc | apply pw_below_drewN | apply below_drew1 | refine below_set ?_ GE121.out | refine below_set ?_ GE122.out) | exact HB.out)⟩⟩
    case round =>
      clear H'
      try clear c1
      try clear c2
      try clear p2
      try clear c3
      try clear c3b0
      try clear c3b1
      try clear c3b2
      try clear c6
      try clear hcz7_0
      try clear hcz8_0
      try clear hfz7_0
      try clear hfz8_0
      obtain ⟨x5_1, rfl, HA, HK1, BK121, BK122, HB⟩ := hrel
      cases gk with
      | zero => exact absurd HA.out (by simp [antiquaryref27_SameGraph.l0])
      | succ k1 =>
        have H := HA.out
        clear HA
        simp only [antiquaryref27_SameGraph.l0] at H
        by_cases c9 : x5_1 < (l0_0.length : Int)
        · rw [if_pos c9] at H
          have c9b0 : decide (x5_1 < (l0_0.length : Int)) = true := decide_eq_true c9
          clear c9
          by_cases c10 : 0 ≤ x5_1
          · rw [if_pos c10] at H
            have c10b0 : decide (0 ≤ x5_1) = true := decide_eq_true c10
            clear c10
            by_cases c11 : x5_1 < (l1_0.length : Int)
            · rw [if_pos c11] at H
              have c11b0 : decide (x5_1 < (l1_0.length : Int)) = true := decide_eq_true c11
              clear c11
              by_cases c12 : ((rd_T61 l0_0 x5_1).f0) = ((rd_T61 l1_0 x5_1).f0)
              · rw [if_pos c12] at H
                have c12b0 : (((rd_T61 l0_0 x5_1).f0) == ((rd_T61 l1_0 x5_1).f0)) = true := beq_iff_eq.mpr c12
                have c12b1 : (((rd_T61 l0_0 x5_1).f0) != ((rd_T61 l1_0 x5_1).f0)) = false := bne_eq_false_iff_eq.mpr c12
                clear c12
                replace H := Option.bind_eq_some_iff.mp H
                obtain ⟨t127, A130, H⟩ := H
                replace H : (if t127 = true then (antiquaryref27_SameGraph.l0 k1 (wrap64 (x5_1 + 1)) l0_0 l1_0) else (some false)) = some r := H
                have A13 := Aside0.mk A130
                clear A130
                by_cases c14 : t127 = true
                · subst c14
                  have H1 : (antiquaryref27_SameGraph.l0 k1 (wrap64 (x5_1 + 1)) l0_0 l1_0) = some r := by rw [if_pos rfl] at H; exact H
                  clear H
                  have H := H1
                  clear H1
                  have H' := Aside0.mk H
                  clear H
                  have hnb15 := NB121_122.out
                  have hnc15 := NB122_121.out
                  have hcz16_0 : wr.cell? ⟨gb121, 0, none⟩ = some (.slice A0_0 l0_0.length c0_0) := (blk_cell BK121.out 0).trans rfl
                  have hfz16_0 := blk_frozen BK121.out 0
                  have p123 : 0 ≤ (x5_1 : Int) := of_decide_eq_true (by first | (with_reducible assumption) | assumption)
                  have q123 : x5_1 < (l0_0.length : Int) := of_decide_eq_true (by first | (with_reducible assumption) | assumption)
                  obtain ⟨ad123, A123_1, c123_1, e123, hx123_0, hx123_1, hl123_1, hi123_1⟩ := at_T61 HR0_0.out x5_1 p123 q123
                  cases e123
                  replace hx123_0 := (HB.out.cell (World.block_lt_of_cell? w _ hx123_0)).trans hx123_0
                  replace hx123_1 := (HB.out.cell (World.block_lt_of_cell? w _ hx123_1)).trans hx123_1
                  have HR123_1 := Aside0.mk hi123_1
                  have HC123_1 := Aside0.mk hl123_1
                  clear hi123_1 hl123_1
                  replace p123 := eq_true p123
                  replace q123 := eq_true q123
                  have hcz17_0 : wr.cell? ⟨gb122, 0, none⟩ = some (.slice A1_0 l1_0.length c1_0) := (blk_cell BK122.out 0).trans rfl
                  have hfz17_0 := blk_frozen BK122.out 0
                  have p124 : 0 ≤ (x5_1 : Int) := of_decide_eq_true (by first | (with_reducible assumption) | assumption)
                  have q124 : x5_1 < (l1_0.length : Int) := of_decide_eq_true (by first | (with_reducible assumption) | assumption)
                  obtain ⟨ad124, A124_1, c124_1, e124, hx124_0, hx124_1, hl124_1, hi124_1⟩ := at_T61 HR1_0.out x5_1 p124 q124
                  cases e124
                  replace hx124_0 := (HB.out.cell (World.block_lt_of_cell? w _ hx124_0)).trans hx124_0
                  replace hx124_1 := (HB.out.cell (World.block_lt_of_cell? w _ hx124_1)).trans hx124_1
                  have HR124_1 := Aside0.mk hi124_1
                  have HC124_1 := Aside0.mk hl124_1
                  clear hi124_1 hl124_1
                  replace p124 := eq_true p124
                  replace q124 := eq_true q124
                  have p125 : 0 ≤ (x5_1 : Int) := of_decide_eq_true (by first | (with_reducible assumption) | assumption)
                  have q125 : x5_1 < (l0_0.length : Int) := of_decide_eq_true (by first | (with_reducible assumption) | assumption)
                  obtain ⟨ad125, A125_1, c125_1, e125, hx125_0, hx125_1, hl125_1, hi125_1⟩ := at_T61 HR0_0.out x5_1 p125 q125
                  obtain rfl : ad123 = ad125 := (by injection e125)
                  replace hx125_0 := (HB.out.cell (World.block_lt_of_cell? w _ hx125_0)).trans hx125_0
                  replace hx125_1 := (HB.out.cell (World.block_lt_of_cell? w _ hx125_1)).trans hx125_1
                  have HR125_1 := Aside0.mk hi125_1
                  have HC125_1 := Aside0.mk hl125_1
                  clear hi125_1 hl125_1
                  replace p125 := eq_true p125
                  replace q125 := eq_true q125
                  have ea_ := Option.some.inj (hx123_1.symm.trans hx125_1)
                  injection ea_ with ea_ en_ ec_
                  subst ea_
                  subst ec_
                  clear en_
                  have p126 : 0 ≤ (x5_1 : Int) := of_decide_eq_true (by first | (with_reducible assumption) | assumption)
                  have q126 : x5_1 < (l1_0.length : Int) := of_decide_eq_true (by first | (with_reducible assumption) | assumption)
                  obtain ⟨ad126, A126_1, c126_1, e126, hx126_0, hx126_1, hl126_1, hi126_1⟩ := at_T61 HR1_0.out x5_1 p126 q126
                  obtain rfl : ad124 = ad126 := (by injection e126)
                  replace hx126_0 := (HB.out.cell (World.block_lt_of_cell? w _ hx126_0)).trans hx126_0
                  replace hx126_1 := (HB.out.cell (World.block_lt_of_cell? w _ hx126_1)).trans hx126_1
                  have HR126_1 := Aside0.mk hi126_1
                  have HC126_1 := Aside0.mk hl126_1
                  clear hi126_1 hl126_1
                  replace p126 := eq_true p126
                  replace q126 := eq_true q126
                  have ea_ := Option.some.inj (hx124_1.symm.trans hx126_1)
                  injection ea_ with ea_ en_ ec_
                  subst ea_
                  subst ec_
                  clear en_
                  go_wp2_with (first | (go_at_call 15; (with_reducible refine (antiquaryref27_Same.calls k1 _ _ ((rd_T61 l0_0 x5_1).f1) _ _ ((rd_T61 l1_0 x5_1).f1) true _ ?side1 ?side2 ?side3 ?side4 A13.out).mono ?_); (case side1 => repeat (first | exact (Kd.C_below HR125_1.out HB.out) | (with_reducible refine Kd.C_alloc ?_ _) | (with_reducible refine Kd.C_drewN ?_ _) | (with_reducible refine Kd.C_drew ?_))); (case side2 => exact HC125_1.out); (case side3 => repeat (first | exact (Kd.C_below HR126_1.out HB.out) | (with_reducible refine Kd.C_alloc ?_ _) | (with_reducible refine Kd.C_drewN ?_ _) | (with_reducible refine Kd.C_drew ?_))); (case side4 => exact HC126_1.out); rintro e w' ⟨rfl, ⟨nd, rfl⟩⟩; (try first | exact ⟨rfl, _, World.drewN_drewN _ _ _⟩ | exact ⟨rfl, _, Eq.trans (World.drewN_drewN _ _ _) (congrArg (World.drewN _) (Nat.add_assoc _ _ _))⟩)))
                  repeat (go_quiet (first | (go_at_call 15; (with_reducible refine (antiquaryref27_Same.calls k1 _ _ ((rd_T61 l0_0 x5_1).f1) _ _ ((rd_T61 l1_0 x5_1).f1) true _ ?side1 ?side2 ?side3 ?side4 A13.out).mono ?_); (case side1 => repeat (first | exact (Kd.C_below HR125_1.out HB.out) | (with_reducible refine Kd.C_alloc ?_ _) | (with_reducible refine Kd.C_drewN ?_ _) | (with_reducible refine Kd.C_drew ?_))); (case side2 => exact HC125_1.out); (case side3 => repeat (first | exact (Kd.C_below HR126_1.out HB.out) | (with_reducible refine Kd.C_alloc ?_ _) | (with_reducible refine Kd.C_drewN ?_ _) | (with_reducible refine Kd.C_drew ?_))); (case side4 => exact HC126_1.out); rintro e w' ⟨rfl, ⟨nd, rfl⟩⟩; (try first | exact ⟨rfl, _, World.drewN_drewN _ _ _⟩ | exact ⟨rfl, _, Eq.trans (World.drewN_drewN _ _ _) (congrArg (World.drewN _) (Nat.add_assoc _ _ _))⟩))); try go_wp2_with (first | (go_at_call 15; (with_reducible refine (antiquaryref27_Same.calls k1 _ _ ((rd_T61 l0_0 x5_1).f1) _ _ ((rd_T61 l1_0 x5_1).f1) true _ ?side1 ?side2 ?side3 ?side4 A13.out).mono ?_); (case side1 => repeat (first | exact (Kd.C_below HR125_1.out HB.out) | (with_reducible refine Kd.C_alloc ?_ _) | (with_reducible refine Kd.C_drewN ?_ _) | (with_reducible refine Kd.C_drew ?_))); (case side2 => exact HC125_1.out); (case side3 => repeat (first | exact (Kd.C_below HR126_1.out HB.out) | (with_reducible refine Kd.C_alloc ?_ _) | (with_reducible refine Kd.C_drewN ?_ _) | (with_reducible refine Kd.C_drew ?_))); (case side4 => exact HC126_1.out); rintro e w' ⟨rfl, ⟨nd, rfl⟩⟩; (try first | exact ⟨rfl, _, World.drewN_drewN _ _ _⟩ | exact ⟨rfl, _, Eq.trans (World.drewN_drewN _ _ _) (congrArg (World.drewN _) (Nat.add_assoc _ _ _))⟩))))
                  go_roundg k1
                  case measure => have := HK1.out; omega
                  case rel => exact ⟨(wrap64 (x5_1 + 1)), (by first | rfl | (simp; done) | (simp [*]; done)), H', ⟨by have := HK1.out; omega⟩, ⟨by (with_reducible repeat (first | refine blk_drewN ?_ _ | refine blk_drew ?_ | refine blk_alloc ?_ _)); exact BK121.out⟩, ⟨by (with_reducible repeat (first | refine blk_drewN ?_ _ | refine blk_drew ?_ | refine blk_alloc ?_ _)); exact BK122.out⟩, ⟨by repeat (first | (with_reducible first | exact HB.out | apply below_alloc | apply pw_below_drewN | apply below_drew1 | refine below_set ?_ GE121.out | refine below_set ?_ GE122.out) | exact HB.out)⟩⟩
                · replace c14 := Bool.eq_false_iff.mpr c14
                  subst c14
                  have H1 : (some false) = some r := by rw [if_neg (show ¬ (false = true) by decide)] at H; exact H
                  clear H
                  have H := H1
                  clear H1
                  obtain rfl := Option.some.inj H
                  have hnb18 := NB121_122.out
                  have hnc18 := NB122_121.out
                  have hcz19_0 : wr.cell? ⟨gb121, 0, none⟩ = some (.slice A0_0 l0_0.length c0_0) := (blk_cell BK121.out 0).trans rfl
                  have hfz19_0 := blk_frozen BK121.out 0
                  have p123 : 0 ≤ (x5_1 : Int) := of_decide_eq_true (by first | (with_reducible assumption) | assumption)
                  have q123 : x5_1 < (l0_0.length : Int) := of_decide_eq_true (by first | (with_reducible assumption) | assumption)
                  obtain ⟨ad123, A123_1, c123_1, e123, hx123_0, hx123_1, hl123_1, hi123_1⟩ := at_T61 HR0_0.out x5_1 p123 q123
                  cases e123
                  replace hx123_0 := (HB.out.cell (World.block_lt_of_cell? w _ hx123_0)).trans hx123_0
                  replace hx123_1 := (HB.out.cell (World.block_lt_of_cell? w _ hx123_1)).trans hx123_1
                  have HR123_1 := Aside0.mk hi123_1
                  have HC123_1 := Aside0.mk hl123_1
                  clear hi123_1 hl123_1
                  replace p123 := eq_true p123
                  replace q123 := eq_true q123
                  have hcz20_0 : wr.cell? ⟨gb122, 0, none⟩ = some (.slice A1_0 l1_0.length c1_0) := (blk_cell BK122.out 0).trans rfl
                  have hfz20_0 := blk_frozen BK122.out 0
                  have p124 : 0 ≤ (x5_1 : Int) := of_decide_eq_true (by first | (with_reducible assumption) | assumption)
                  have q124 : x5_1 < (l1_0.length : Int) := of_decide_eq_true (by first | (with_reducible assumption) | assumption)
                  obtain ⟨ad124, A124_1, c124_1, e124, hx124_0, hx124_1, hl124_1, hi124_1⟩ := at_T61 HR1_0.out x5_1 p124 q124
                  cases e124
                  replace hx124_0 := (HB.out.cell (World.block_lt_of_cell? w _ hx124_0)).trans hx124_0
                  replace hx124_1 := (HB.out.cell (World.block_lt_of_cell? w _ hx124_1)).trans hx124_1
                  have HR124_1 := Aside0.mk hi124_1
                  have HC124_1 := Aside0.mk hl124_1
                  clear hi124_1 hl124_1
                  replace p124 := eq_true p124
                  replace q124 := eq_true q124
                  have p125 : 0 ≤ (x5_1 : Int) := of_decide_eq_true (by first | (with_reducible assumption) | assumption)
                  have q125 : x5_1 < (l0_0.length : Int) := of_decide_eq_true (by first | (with_reducible assumption) | assumption)
                  obtain ⟨ad125, A125_1, c125_1, e125, hx125_0, hx125_1, hl125_1, hi125_1⟩ := at_T61 HR0_0.out x5_1 p125 q125
                  obtain rfl : ad123 = ad125 := (by injection e125)
                  replace hx125_0 := (HB.out.cell (World.block_lt_of_cell? w _ hx125_0)).trans hx125_0
                  replace hx125_1 := (HB.out.cell (World.block_lt_of_cell? w _ hx125_1)).trans hx125_1
                  have HR125_1 := Aside0.mk hi125_1
                  have HC125_1 := Aside0.mk hl125_1
                  clear hi125_1 hl125_1
                  replace p125 := eq_true p125
                  replace q125 := eq_true q125
                  have ea_ := Option.some.inj (hx123_1.symm.trans hx125_1)
                  injection ea_ with ea_ en_ ec_
                  subst ea_
                  subst ec_
                  clear en_
                  have p126 : 0 ≤ (x5_1 : Int) := of_decide_eq_true (by first | (with_reducible assumption) | assumption)
                  have q126 : x5_1 < (l1_0.length : Int) := of_decide_eq_true (by first | (with_reducible assumption) | assumption)
                  obtain ⟨ad126, A126_1, c126_1, e126, hx126_0, hx126_1, hl126_1, hi126_1⟩ := at_T61 HR1_0.out x5_1 p126 q126
                  obtain rfl : ad124 = ad126 := (by injection e126)
                  replace hx126_0 := (HB.out.cell (World.block_lt_of_cell? w _ hx126_0)).trans hx126_0
                  replace hx126_1 := (HB.out.cell (World.block_lt_of_cell? w _ hx126_1)).trans hx126_1
                  have HR126_1 := Aside0.mk hi126_1
                  have HC126_1 := Aside0.mk hl126_1
                  clear hi126_1 hl126_1
                  replace p126 := eq_true p126
                  replace q126 := eq_true q126
                  have ea_ := Option.some.inj (hx124_1.symm.trans hx126_1)
                  injection ea_ with ea_ en_ ec_
                  subst ea_
                  subst ec_
                  clear en_
                  go_wp2_with (first | (go_at_call 15; (with_reducible refine (antiquaryref27_Same.calls k1 _ _ ((rd_T61 l0_0 x5_1).f1) _ _ ((rd_T61 l1_0 x5_1).f1) false _ ?side1 ?side2 ?side3 ?side4 A13.out).mono ?_); (case side1 => repeat (first | exact (Kd.C_below HR125_1.out HB.out) | (with_reducible refine Kd.C_alloc ?_ _) | (with_reducible refine Kd.C_drewN ?_ _) | (with_reducible refine Kd.C_drew ?_))); (case side2 => exact HC125_1.out); (case side3 => repeat (first | exact (Kd.C_below HR126_1.out HB.out) | (with_reducible refine Kd.C_alloc ?_ _) | (with_reducible refine Kd.C_drewN ?_ _) | (with_reducible refine Kd.C_drew ?_))); (case side4 => exact HC126_1.out); rintro e w' ⟨rfl, ⟨nd, rfl⟩⟩; (try first | exact ⟨rfl, _, World.drewN_drewN _ _ _⟩ | exact ⟨rfl, _, Eq.trans (World.drewN_drewN _ _ _) (congrArg (World.drewN _) (Nat.add_assoc _ _ _))⟩)))
                  repeat (go_quiet (first | (go_at_call 15; (with_reducible refine (antiquaryref27_Same.calls k1 _ _ ((rd_T61 l0_0 x5_1).f1) _ _ ((rd_T61 l1_0 x5_1).f1) false _ ?side1 ?side2 ?side3 ?side4 A13.out).mono ?_); (case side1 => repeat (first | exact (Kd.C_below HR125_1.out HB.out) | (with_reducible refine Kd.C_alloc ?_ _) | (with_reducible refine Kd.C_drewN ?_ _) | (with_reducible refine Kd.C_drew ?_))); (case side2 => exact HC125_1.out); (case side3 => repeat (first | exact (Kd.C_below HR126_1.out HB.out) | (with_reducible refine Kd.C_alloc ?_ _) | (with_reducible refine Kd.C_drewN ?_ _) | (with_reducible refine Kd.C_drew ?_))); (case side4 => exact HC126_1.out); rintro e w' ⟨rfl, ⟨nd, rfl⟩⟩; (try first | exact ⟨rfl, _, World.drewN_drewN _ _ _⟩ | exact ⟨rfl, _, Eq.trans (World.drewN_drewN _ _ _) (congrArg (World.drewN _) (Nat.add_assoc _ _ _))⟩))); try go_wp2_with (first | (go_at_call 15; (with_reducible refine (antiquaryref27_Same.calls k1 _ _ ((rd_T61 l0_0 x5_1).f1) _ _ ((rd_T61 l1_0 x5_1).f1) false _ ?side1 ?side2 ?side3 ?side4 A13.out).mono ?_); (case side1 => repeat (first | exact (Kd.C_below HR125_1.out HB.out) | (with_reducible refine Kd.C_alloc ?_ _) | (with_reducible refine Kd.C_drewN ?_ _) | (with_reducible refine Kd.C_drew ?_))); (case side2 => exact HC125_1.out); (case side3 => repeat (first | exact (Kd.C_below HR126_1.out HB.out) | (with_reducible refine Kd.C_alloc ?_ _) | (with_reducible refine Kd.C_drewN ?_ _) | (with_reducible refine Kd.C_drew ?_))); (case side4 => exact HC126_1.out); rintro e w' ⟨rfl, ⟨nd, rfl⟩⟩; (try first | exact ⟨rfl, _, World.drewN_drewN _ _ _⟩ | exact ⟨rfl, _, Eq.trans (World.drewN_drewN _ _ _) (congrArg (World.drewN _) (Nat.add_assoc _ _ _))⟩))))
                  go_ret
                  exact ⟨by first | rfl | (simp [errW_none, errW_some] <;> rfl) | (simp [*, errW_none, errW_some] <;> rfl), by repeat (first | (with_reducible first | exact HB.out | apply below_alloc | apply pw_below_drewN | apply below_drew1 | refine below_set ?_ GE121.out | refine below_set ?_ GE122.out) | exact HB.out)⟩
              · rw [if_neg c12] at H
                have c12b0 : (((rd_T61 l0_0 x5_1).f0) == ((rd_T61 l1_0 x5_1).f0)) = false := beq_eq_false_iff_ne.mpr c12
                have c12b1 : (((rd_T61 l0_0 x5_1).f0) != ((rd_T61 l1_0 x5_1).f0)) = true := bne_iff_ne.mpr c12
                obtain rfl := Option.some.inj H
                have hnb21 := NB121_122.out
                have hnc21 := NB122_121.out
                have hcz22_0 : wr.cell? ⟨gb121, 0, none⟩ = some (.slice A0_0 l0_0.length c0_0) := (blk_cell BK121.out 0).trans rfl
                have hfz22_0 := blk_frozen BK121.out 0
                have p123 : 0 ≤ (x5_1 : Int) := of_decide_eq_true (by first | (with_reducible assumption) | assumption)
                have q123 : x5_1 < (l0_0.length : Int) := of_decide_eq_true (by first | (with_reducible assumption) | assumption)
                obtain ⟨ad123, A123_1, c123_1, e123, hx123_0, hx123_1, hl123_1, hi123_1⟩ := at_T61 HR0_0.out x5_1 p123 q123
                cases e123
                replace hx123_0 := (HB.out.cell (World.block_lt_of_cell? w _ hx123_0)).trans hx123_0
                replace hx123_1 := (HB.out.cell (World.block_lt_of_cell? w _ hx123_1)).trans hx123_1
                have HR123_1 := Aside0.mk hi123_1
                have HC123_1 := Aside0.mk hl123_1
                clear hi123_1 hl123_1
                replace p123 := eq_true p123
                replace q123 := eq_true q123
                have hcz23_0 : wr.cell? ⟨gb122, 0, none⟩ = some (.slice A1_0 l1_0.length c1_0) := (blk_cell BK122.out 0).trans rfl
                have hfz23_0 := blk_frozen BK122.out 0
                have p124 : 0 ≤ (x5_1 : Int) := of_decide_eq_true (by first | (with_reducible assumption) | assumption)
                have q124 : x5_1 < (l1_0.length : Int) := of_decide_eq_true (by first | (with_reducible assumption) | assumption)
                obtain ⟨ad124, A124_1, c124_1, e124, hx124_0, hx124_1, hl124_1, hi124_1⟩ := at_T61 HR1_0.out x5_1 p124 q124
                cases e124
                replace hx124_0 := (HB.out.cell (World.block_lt_of_cell? w _ hx124_0)).trans hx124_0
                replace hx124_1 := (HB.out.cell (World.block_lt_of_cell? w _ hx124_1)).trans hx124_1
                have HR124_1 := Aside0.mk hi124_1
                have HC124_1 := Aside0.mk hl124_1
                clear hi124_1 hl124_1
                replace p124 := eq_true p124
                replace q124 := eq_true q124
                go_wp2
                repeat (go_quiet (fail); try go_wp2)
                go_ret
                exact ⟨by first | rfl | (simp [errW_none, errW_some] <;> rfl) | (simp [*, errW_none, errW_some] <;> rfl), by repeat (first | (with_reducible first | exact HB.out | apply below_alloc | apply pw_below_drewN | apply below_drew1 | refine below_set ?_ GE121.out | refine below_set ?_ GE122.out) | exact HB.out)⟩
            · rw [if_neg c11] at H
              exact absurd H (by simp)
          · rw [if_neg c10] at H
            exact absurd H (by simp)
        · rw [if_neg c9] at H
          have c9b0 : decide (x5_1 < (l0_0.length : Int)) = false := decide_eq_false c9
          clear c9
          obtain rfl := Option.some.inj H
          have hnb24 := NB121_122.out
          have hnc24 := NB122_121.out
          have hcz25_0 : wr.cell? ⟨gb121, 0, none⟩ = some (.slice A0_0 l0_0.length c0_0) := (blk_cell BK121.out 0).trans rfl
          have hfz25_0 := blk_frozen BK121.out 0
          go_wp2
          repeat (go_quiet (fail); try go_wp2)
          go_ret
          exact ⟨by first | rfl | (simp [errW_none, errW_some] <;> rfl) | (simp [*, errW_none, errW_some] <;> rfl), by repeat (first | (with_reducible first | exact HB.out | apply below_alloc | apply pw_below_drewN | apply below_drew1 | refine below_set ?_ GE121.out | refine below_set ?_ GE122.out) | exact HB.out)⟩
  · rw [if_neg c3] at H
    have c3b0 : ((l0_0.length : Int) == (l1_0.length : Int)) = false := beq_eq_false_iff_ne.mpr c3
    have c3b1 : ((l0_0.length : Int) != (l1_0.length : Int)) = true := bne_iff_ne.mpr c3
    have c3b2 : (l0_0.length == l1_0.length) = false := by first | simpa using c3 | (simp at c3 ⊢; omega)
    obtain rfl := Option.some.inj H
    go_enter Tryz.func23, Tryz.ntmps23
    go_wp2_with (first | ((with_reducible refine gate_dst (N := 2) rfl ?_); refine box_event ?hg (N := 2) ?hd (cs := #[.slice A0_0 l0_0.length c0_0]) (t := 25) ?hr ?_; (case hd => rfl); (case hg => rfl); (case hr => first | (go_simp; done) | (go_simp; rfl)); intro gb121 hg w26 hbox hb; have n0_ := Aside0.mk (below_step (by repeat (first | (with_reducible first | exact HB.out | apply below_alloc | apply pw_below_drewN | apply below_drew1) | exact HB.out)) hb); have n1_ := Aside0.mk (hbox); have n2_ := Aside0.mk ((by rw [hg]; exact (below_size (by repeat (first | (with_reducible first | exact HB.out | apply below_alloc | apply pw_below_drewN | apply below_drew1) | exact HB.out))) : w.heap.size ≤ gb121)); have n3_ := Aside0.mk ((by rw [hg]; exact (below_size (by repeat (first | (with_reducible first | exact HB.out | apply below_alloc | apply pw_below_drewN | apply below_drew1) | exact HB.out))) : w.heap.size ≤ gb121)); clear HB; have HB := n0_; have BK121 := n1_; have GW121 := n2_; have GE121 := n3_; clear n0_ n1_ n2_ n3_; clear hb hbox hg) | ((with_reducible refine gate_dst (N := 3) rfl ?_); refine box_event ?hg (N := 3) ?hd (cs := #[.slice A1_0 l1_0.length c1_0]) (t := 25) ?hr ?_; (case hd => rfl); (case hg => rfl); (case hr => first | (go_simp; done) | (go_simp; rfl)); intro gb122 hg w27 hbox hb; have n0_ := Aside0.mk (blk_below (g := gb121) (o := .cells #[.slice A0_0 l0_0.length c0_0] 25 (0, 0)) (by (with_reducible repeat (first | refine blk_drewN ?_ _ | refine blk_drew ?_ | refine blk_alloc ?_ _)); exact BK121.out) hb); have n1_ := Aside0.mk (below_step (by repeat (first | (with_reducible first | exact HB.out | apply below_alloc | apply pw_below_drewN | apply below_drew1 | refine below_set ?_ GE121.out) | exact HB.out)) hb); have n2_ := Aside0.mk (hbox); have n3_ := Aside0.mk ((by rw [hg]; exact (below_size (by repeat (first | (with_reducible first | exact HB.out | apply below_alloc | apply pw_below_drewN | apply below_drew1 | refine below_set ?_ GE121.out) | exact HB.out))) : w.heap.size ≤ gb122)); have n4_ := Aside0.mk ((by rw [hg]; exact (below_size (by repeat (first | (with_reducible first | exact HB.out | apply below_alloc | apply pw_below_drewN | apply below_drew1 | refine below_set ?_ GE121.out) | exact HB.out))) : w.heap.size ≤ gb122)); have n5_ := Aside0.mk ((by rw [hg]; exact Nat.ne_of_lt (blk_lt (g := gb121) (o := .cells #[.slice A0_0 l0_0.length c0_0] 25 (0, 0)) (by (with_reducible repeat (first | refine blk_drewN ?_ _ | refine blk_drew ?_ | refine blk_alloc ?_ _)); exact BK121.out)) : gb121 ≠ gb122)); have n6_ := Aside0.mk ((by rw [hg]; exact Nat.ne_of_gt (blk_lt (g := gb121) (o := .cells #[.slice A0_0 l0_0.length c0_0] 25 (0, 0)) (by (with_reducible repeat (first | refine blk_drewN ?_ _ | refine blk_drew ?_ | refine blk_alloc ?_ _)); exact BK121.out)) : gb122 ≠ gb121)); clear BK121; clear HB; have BK121 := n0_; have HB := n1_; have BK122 := n2_; have GW122 := n3_; have GE122 := n4_; have NB121_122 := n5_; have NB122_121 := n6_; clear n0_ n1_ n2_ n3_ n4_ n5_ n6_; clear hb hbox hg; have hnb28 := NB121_122.out; have hnc28 := NB122_121.out; have hcz29_0 : w27.cell? ⟨gb121, 0, none⟩ = some (.slice A0_0 l0_0.length c0_0) := (blk_cell BK121.out 0).trans rfl; have hfz29_0 := blk_frozen BK121.out 0; have hcz30_0 : w27.cell? ⟨gb122, 0, none⟩ = some (.slice A1_0 l1_0.length c1_0) := (blk_cell BK122.out 0).trans rfl; have hfz30_0 := blk_frozen BK122.out 0))
    repeat (go_quiet (first | ((with_reducible refine gate_dst (N := 2) rfl ?_); refine box_event ?hg (N := 2) ?hd (cs := #[.slice A0_0 l0_0.length c0_0]) (t := 25) ?hr ?_; (case hd => rfl); (case hg => rfl); (case hr => first | (go_simp; done) | (go_simp; rfl)); intro gb121 hg w26 hbox hb; have n0_ := Aside0.mk (below_step (by repeat (first | (with_reducible first | exact HB.out | apply below_alloc | apply pw_below_drewN | apply below_drew1) | exact HB.out)) hb); have n1_ := Aside0.mk (hbox); have n2_ := Aside0.mk ((by rw [hg]; exact (below_size (by repeat (first | (with_reducible first | exact HB.out | apply below_alloc | apply pw_below_drewN | apply below_drew1) | exact HB.out))) : w.heap.size ≤ gb121)); have n3_ := Aside0.mk ((by rw [hg]; exact (below_size (by repeat (first | (with_reducible first | exact HB.out | apply below_alloc | apply pw_below_drewN | apply below_drew1) | exact HB.out))) : w.heap.size ≤ gb121)); clear HB; have HB := n0_; have BK121 := n1_; have GW121 := n2_; have GE121 := n3_; clear n0_ n1_ n2_ n3_; clear hb hbox hg) | ((with_reducible refine gate_dst (N := 3) rfl ?_); refine box_event ?hg (N := 3) ?hd (cs := #[.slice A1_0 l1_0.length c1_0]) (t := 25) ?hr ?_; (case hd => rfl); (case hg => rfl); (case hr => first | (go_simp; done) | (go_simp; rfl)); intro gb122 hg w27 hbox hb; have n0_ := Aside0.mk (blk_below (g := gb121) (o := .cells #[.slice A0_0 l0_0.length c0_0] 25 (0, 0)) (by (with_reducible repeat (first | refine blk_drewN ?_ _ | refine blk_drew ?_ | refine blk_alloc ?_ _)); exact BK121.out) hb); have n1_ := Aside0.mk (below_step (by repeat (first | (with_reducible first | exact HB.out | apply below_alloc | apply pw_below_drewN | apply below_drew1 | refine below_set ?_ GE121.out) | exact HB.out)) hb); have n2_ := Aside0.mk (hbox); have n3_ := Aside0.mk ((by rw [hg]; exact (below_size (by repeat (first | (with_reducible first | exact HB.out | apply below_alloc | apply pw_below_drewN | apply below_drew1 | refine below_set ?_ GE121.out) | exact HB.out))) : w.heap.size ≤ gb122)); have n4_ := Aside0.mk ((by rw [hg]; exact (below_size (by repeat (first | (with_reducible first | exact HB.out | apply below_alloc | apply pw_below_drewN | apply below_drew1 | refine below_set ?_ GE121.out) | exact HB.out))) : w.heap.size ≤ gb122)); have n5_ := Aside0.mk ((by rw [hg]; exact Nat.ne_of_lt (blk_lt (g := gb121) (o := .cells #[.slice A0_0 l0_0.length c0_0] 25 (0, 0)) (by (with_reducible repeat (first | refine blk_drewN ?_ _ | refine blk_drew ?_ | refine blk_alloc ?_ _)); exact BK121.out)) : gb121 ≠ gb122)); have n6_ := Aside0.mk ((by rw [hg]; exact Nat.ne_of_gt (blk_lt (g := gb121) (o := .cells #[.slice A0_0 l0_0.length c0_0] 25 (0, 0)) (by (with_reducible repeat (first | refine blk_drewN ?_ _ | refine blk_drew ?_ | refine blk_alloc ?_ _)); exact BK121.out)) : gb122 ≠ gb121)); clear BK121; clear HB; have BK121 := n0_; have HB := n1_; have BK122 := n2_; have GW122 := n3_; have GE122 := n4_; have NB121_122 := n5_; have NB122_121 := n6_; clear n0_ n1_ n2_ n3_ n4_ n5_ n6_; clear hb hbox hg; have hnb28 := NB121_122.out; have hnc28 := NB122_121.out; have hcz29_0 : w27.cell? ⟨gb121, 0, none⟩ = some (.slice A0_0 l0_0.length c0_0) := (blk_cell BK121.out 0).trans rfl; have hfz29_0 := blk_frozen BK121.out 0; have hcz30_0 : w27.cell? ⟨gb122, 0, none⟩ = some (.slice A1_0 l1_0.length c1_0) := (blk_cell BK122.out 0).trans rfl; have hfz30_0 := blk_frozen BK122.out 0)); try go_wp2_with (first | ((with_reducible refine gate_dst (N := 2) rfl ?_); refine box_event ?hg (N := 2) ?hd (cs := #[.slice A0_0 l0_0.length c0_0]) (t := 25) ?hr ?_; (case hd => rfl); (case hg => rfl); (case hr => first | (go_simp; done) | (go_simp; rfl)); intro gb121 hg w26 hbox hb; have n0_ := Aside0.mk (below_step (by repeat (first | (with_reducible first | exact HB.out | apply below_alloc | apply pw_below_drewN | apply below_drew1) | exact HB.out)) hb); have n1_ := Aside0.mk (hbox); have n2_ := Aside0.mk ((by rw [hg]; exact (below_size (by repeat (first | (with_reducible first | exact HB.out | apply below_alloc | apply pw_below_drewN | apply below_drew1) | exact HB.out))) : w.heap.size ≤ gb121)); have n3_ := Aside0.mk ((by rw [hg]; exact (below_size (by repeat (first | (with_reducible first | exact HB.out | apply below_alloc | apply pw_below_drewN | apply below_drew1) | exact HB.out))) : w.heap.size ≤ gb121)); clear HB; have HB := n0_; have BK121 := n1_; have GW121 := n2_; have GE121 := n3_; clear n0_ n1_ n2_ n3_; clear hb hbox hg) | ((with_reducible refine gate_dst (N := 3) rfl ?_); refine box_event ?hg (N := 3) ?hd (cs := #[.slice A1_0 l1_0.length c1_0]) (t := 25) ?hr ?_; (case hd => rfl); (case hg => rfl); (case hr => first | (go_simp; done) | (go_simp; rfl)); intro gb122 hg w27 hbox hb; have n0_ := Aside0.mk (blk_below (g := gb121) (o := .cells #[.slice A0_0 l0_0.length c0_0] 25 (0, 0)) (by (with_reducible repeat (first | refine blk_drewN ?_ _ | refine blk_drew ?_ | refine blk_alloc ?_ _)); exact BK121.out) hb); have n1_ := Aside0.mk (below_step (by repeat (first | (with_reducible first | exact HB.out | apply below_alloc | apply pw_below_drewN | apply below_drew1 | refine below_set ?_ GE121.out) | exact HB.out)) hb); have n2_ := Aside0.mk (hbox); have n3_ := Aside0.mk ((by rw [hg]; exact (below_size (by repeat (first | (with_reducible first | exact HB.out | apply below_alloc | apply pw_below_drewN | apply below_drew1 | refine below_set ?_ GE121.out) | exact HB.out))) : w.heap.size ≤ gb122)); have n4_ := Aside0.mk ((by rw [hg]; exact (below_size (by repeat (first | (with_reducible first | exact HB.out | apply below_alloc | apply pw_below_drewN | apply below_drew1 | refine below_set ?_ GE121.out) | exact HB.out))) : w.heap.size ≤ gb122)); have n5_ := Aside0.mk ((by rw [hg]; exact Nat.ne_of_lt (blk_lt (g := gb121) (o := .cells #[.slice A0_0 l0_0.length c0_0] 25 (0, 0)) (by (with_reducible repeat (first | refine blk_drewN ?_ _ | refine blk_drew ?_ | refine blk_alloc ?_ _)); exact BK121.out)) : gb121 ≠ gb122)); have n6_ := Aside0.mk ((by rw [hg]; exact Nat.ne_of_gt (blk_lt (g := gb121) (o := .cells #[.slice A0_0 l0_0.length c0_0] 25 (0, 0)) (by (with_reducible repeat (first | refine blk_drewN ?_ _ | refine blk_drew ?_ | refine blk_alloc ?_ _)); exact BK121.out)) : gb122 ≠ gb121)); clear BK121; clear HB; have BK121 := n0_; have HB := n1_; have BK122 := n2_; have GW122 := n3_; have GE122 := n4_; have NB121_122 := n5_; have NB122_121 := n6_; clear n0_ n1_ n2_ n3_ n4_ n5_ n6_; clear hb hbox hg; have hnb28 := NB121_122.out; have hnc28 := NB122_121.out; have hcz29_0 : w27.cell? ⟨gb121, 0, none⟩ = some (.slice A0_0 l0_0.length c0_0) := (blk_cell BK121.out 0).trans rfl; have hfz29_0 := blk_frozen BK121.out 0; have hcz30_0 : w27.cell? ⟨gb122, 0, none⟩ = some (.slice A1_0 l1_0.length c1_0) := (blk_cell BK122.out 0).trans rfl; have hfz30_0 := blk_frozen BK122.out 0)))
    go_ret
    exact ⟨by first | rfl | (simp [errW_none, errW_some] <;> rfl) | (simp [*, errW_none, errW_some] <;> rfl), by repeat (first | (with_reducible first | exact HB.out | apply below_alloc | apply pw_below_drewN | apply below_drew1 | refine below_set ?_ GE121.out | refine below_set ?_ GE122.out) | exact HB.out)⟩
def antiquaryref04_size.f (a0 : Int) : Option (Int) := if a0 < 0 then (some (wrap64 (-a0))) else (some a0)
set_option maxHeartbeats 8000000 in
set_option maxRecDepth 100000 in
theorem antiquaryref04_size.calls (a0 : Int) (r : Int) (w : World) (h : antiquaryref04_size.f a0 = some r) :
    Calls Tryz.prog 81 #[.int .i64 a0] w fun e w' => e = .returned (.int .i64 r) ∧ Drawn0 w w' := by
  have H : (if a0 < 0 then (some (wrap64 (-a0))) else (some a0)) = some r := h
  clear h
  by_cases c2 : a0 < 0
  · rw [if_pos c2] at H
    have c2b0 : decide (a0 < 0) = true := decide_eq_true c2
    clear c2
    obtain rfl := Option.some.inj H
    go_enter Tryz.func81, Tryz.ntmps81
    go_wp2
    go_ret
    exact ⟨by first | rfl | (simp; done) | (simp [*]; done), by repeat (first | exact Drawn0.refl _ | apply Drawn0.step)⟩
  · rw [if_neg c2] at H
    have c2b0 : decide (a0 < 0) = false := decide_eq_false c2
    clear c2
    obtain rfl := Option.some.inj H
    go_enter Tryz.func81, Tryz.ntmps81
    go_wp2
    go_ret
    exact ⟨by first | rfl | (simp; done) | (simp [*]; done), by repeat (first | exact Drawn0.refl _ | apply Drawn0.step)⟩
def antiquaryref04_Norm.l0 : Nat → Int → List Int → Int → Int → Option (Int)
  | 0, _, _, _, _ => none
  | k + 1, x0, x1, x5, x6 => if x6 < (x1.length : Int) then (if x0 = 1 then (if 0 ≤ x6 then ((antiquaryref04_size.f (rd x1 x6)).bind fun t129 => (antiquaryref04_Norm.l0 k x0 x1 (wrap64 (x5 + t129)) (wrap64 (x6 + 1)))) else (none)) else (if x0 = 2 then (if 0 ≤ x6 then (antiquaryref04_Norm.l0 k x0 x1 (wrap64 (x5 + (wrap64 ((rd x1 x6) * (rd x1 x6))))) (wrap64 (x6 + 1))) else (none)) else (if 0 ≤ x6 then ((antiquaryref04_size.f (rd x1 x6)).bind fun t133 => (antiquaryref04_Norm.l0 k x0 x1 (mx x5 t133) (wrap64 (x6 + 1)))) else (none)))) else (some x5)
def antiquaryref04_Norm.f (k : Nat) (a0 : Int) (l1 : List Int) : Option (Int) := antiquaryref04_Norm.l0 k a0 l1 0 0
theorem antiquaryref04_Norm.mono_l : ∀ k, (∀ y0 y1 y2 y3, LeO (antiquaryref04_Norm.l0 k y0 y1 y2 y3) (antiquaryref04_Norm.l0 (k + 1) y0 y1 y2 y3))
  | 0 => fun _ _ _ _ r h => by simp [antiquaryref04_Norm.l0] at h
  | k + 1 => by
    have ih0 := antiquaryref04_Norm.mono_l k
    · intro y0 y1 y2 y3
      unfold antiquaryref04_Norm.l0
      repeat' first
      | (with_reducible exact ih0 _ _ _ _)
      | (with_reducible exact LeO.refl _)
      | (with_reducible exact LeO.none _)
      | (with_reducible refine LeO.ite ?_ ?_)
      | (with_reducible refine LeO.bind ?_ (fun _ => ?_))
      | exact ih0 _ _ _ _
      | exact LeO.none _
      | refine LeO.ite ?_ ?_
      | refine LeO.bind ?_ (fun _ => ?_)
theorem antiquaryref04_Norm.mono : ∀ a0 a1 k, LeO (antiquaryref04_Norm.f k a0 a1) (antiquaryref04_Norm.f (k + 1) a0 a1) := by
  intro a0 a1 k
  have ih0 := antiquaryref04_Norm.mono_l k
  unfold antiquaryref04_Norm.f
  repeat' first
      | (with_reducible exact ih0 _ _ _ _)
      | (with_reducible exact LeO.refl _)
      | (with_reducible exact LeO.none _)
      | (with_reducible refine LeO.ite ?_ ?_)
      | (with_reducible refine LeO.bind ?_ (fun _ => ?_))
      | exact ih0 _ _ _ _
      | exact LeO.none _
      | refine LeO.ite ?_ ?_
      | refine LeO.bind ?_ (fun _ => ?_)
set_option maxHeartbeats 8000000 in
set_option maxRecDepth 100000 in
theorem antiquaryref04_Norm.calls (k : Nat) (a0 : Int) (A1 : Option Addr) (c1 : Nat) (l1 : List Int) (r : Int) (w : World) (hr1 : Kd.C (Kd.int .i64) w A1 l1.length l1) (hc1 : l1.length ≤ c1) (h : antiquaryref04_Norm.f k a0 l1 = some r) :
    Calls Tryz.prog 63 #[.int .i64 a0, .slice A1 l1.length c1] w fun e w' => e = .returned (.int .i64 r) ∧ Below w.heap.size w w' := by
  have HR1 := Aside0.mk hr1
  have HC1 := Aside0.mk hc1
  clear hr1 hc1
  have HB := Aside0.mk (Below.refl w.heap.size w)
  have H : (antiquaryref04_Norm.l0 k a0 l1 0 0) = some r := h
  clear h
  have H' := Aside0.mk H
  clear H
  go_enter Tryz.func63, Tryz.ntmps63
  go_wp2
  repeat (go_quiet (fail); try go_wp2)
  go_loopg [5, 6] k (fun kq v5 v6 w' => ∃ (x5_1 : Int) (x6_1 : Int), v5 = .int .i64 x5_1 ∧ v6 = .int .i64 x6_1 ∧ Aside0 (antiquaryref04_Norm.l0 kq a0 l1 x5_1 x6_1 = some r) ∧ Aside0 (kq ≤ k) ∧ Aside0 (Below w.heap.size w w'))
  case atStart => exact ⟨(0), (0), (by first | rfl | (simp; done) | (simp [*]; done)), (by first | rfl | (simp; done) | (simp [*]; done)), H', ⟨Nat.le_refl _⟩, ⟨by repeat (first | (with_reducible first | exact HB.out | apply below_alloc | apply pw_below_drewN | apply below_drew1) | exact HB.out)⟩⟩
  case round =>
    clear H'
    try clear c1
    try clear p2
    obtain ⟨x5_1, x6_1, rfl, rfl, HA, HK1, HB⟩ := hrel
    cases gk with
    | zero => exact absurd HA.out (by simp [antiquaryref04_Norm.l0])
    | succ k1 =>
      have H := HA.out
      clear HA
      simp only [antiquaryref04_Norm.l0] at H
      by_cases c3 : x6_1 < (l1.length : Int)
      · rw [if_pos c3] at H
        have c3b0 : decide (x6_1 < (l1.length : Int)) = true := decide_eq_true c3
        clear c3
        by_cases c4 : a0 = 1
        · rw [if_pos c4] at H
          have c4b0 : (a0 == 1) = true := beq_iff_eq.mpr c4
          have c4b1 : (a0 != 1) = false := bne_eq_false_iff_eq.mpr c4
          clear c4
          by_cases c5 : 0 ≤ x6_1
          · rw [if_pos c5] at H
            have c5b0 : decide (0 ≤ x6_1) = true := decide_eq_true c5
            clear c5
            replace H := Option.bind_eq_some_iff.mp H
            obtain ⟨t129, A60, H⟩ := H
            replace H : (antiquaryref04_Norm.l0 k1 a0 l1 (wrap64 (x5_1 + t129)) (wrap64 (x6_1 + 1))) = some r := H
            have A6 := Aside0.mk A60
            clear A60
            have H' := Aside0.mk H
            clear H
            have p128 : 0 ≤ (x6_1 : Int) := of_decide_eq_true (by first | (with_reducible assumption) | assumption)
            have q128 : x6_1 < (l1.length : Int) := of_decide_eq_true (by first | (with_reducible assumption) | assumption)
            obtain ⟨ad128, e128, hx128_0⟩ := Kd.at_int HR1.out x6_1 p128 q128
            cases e128
            replace hx128_0 := (HB.out.cell (World.block_lt_of_cell? w _ hx128_0)).trans hx128_0
            replace p128 := eq_true p128
            replace q128 := eq_true q128
            go_wp2_with (first | (go_at_call 81; (with_reducible refine (antiquaryref04_size.calls (rd l1 x6_1) t129 _ A6.out).mono ?_); rintro e w' ⟨rfl, ⟨nd, rfl⟩⟩; (try first | exact ⟨rfl, _, World.drewN_drewN _ _ _⟩ | exact ⟨rfl, _, Eq.trans (World.drewN_drewN _ _ _) (congrArg (World.drewN _) (Nat.add_assoc _ _ _))⟩)))
            repeat (go_quiet (first | (go_at_call 81; (with_reducible refine (antiquaryref04_size.calls (rd l1 x6_1) t129 _ A6.out).mono ?_); rintro e w' ⟨rfl, ⟨nd, rfl⟩⟩; (try first | exact ⟨rfl, _, World.drewN_drewN _ _ _⟩ | exact ⟨rfl, _, Eq.trans (World.drewN_drewN _ _ _) (congrArg (World.drewN _) (Nat.add_assoc _ _ _))⟩))); try go_wp2_with (first | (go_at_call 81; (with_reducible refine (antiquaryref04_size.calls (rd l1 x6_1) t129 _ A6.out).mono ?_); rintro e w' ⟨rfl, ⟨nd, rfl⟩⟩; (try first | exact ⟨rfl, _, World.drewN_drewN _ _ _⟩ | exact ⟨rfl, _, Eq.trans (World.drewN_drewN _ _ _) (congrArg (World.drewN _) (Nat.add_assoc _ _ _))⟩))))
            go_roundg k1
            case measure => have := HK1.out; omega
            case rel => exact ⟨(wrap64 (x5_1 + t129)), (wrap64 (x6_1 + 1)), (by first | rfl | (simp; done) | (simp [*]; done)), (by first | rfl | (simp; done) | (simp [*]; done)), H', ⟨by have := HK1.out; omega⟩, ⟨by repeat (first | (with_reducible first | exact HB.out | apply below_alloc | apply pw_below_drewN | apply below_drew1) | exact HB.out)⟩⟩
          · rw [if_neg c5] at H
            exact absurd H (by simp)
        · rw [if_neg c4] at H
          have c4b0 : (a0 == 1) = false := beq_eq_false_iff_ne.mpr c4
          have c4b1 : (a0 != 1) = true := bne_iff_ne.mpr c4
          by_cases c7 : a0 = 2
          · rw [if_pos c7] at H
            have c7b0 : (a0 == 2) = true := beq_iff_eq.mpr c7
            have c7b1 : (a0 != 2) = false := bne_eq_false_iff_eq.mpr c7
            clear c7
            by_cases c8 : 0 ≤ x6_1
            · rw [if_pos c8] at H
              have c8b0 : decide (0 ≤ x6_1) = true := decide_eq_true c8
              clear c8
              have H' := Aside0.mk H
              clear H
              have p130 : 0 ≤ (x6_1 : Int) := of_decide_eq_true (by first | (with_reducible assumption) | assumption)
              have q130 : x6_1 < (l1.length : Int) := of_decide_eq_true (by first | (with_reducible assumption) | assumption)
              obtain ⟨ad130, e130, hx130_0⟩ := Kd.at_int HR1.out x6_1 p130 q130
              cases e130
              replace hx130_0 := (HB.out.cell (World.block_lt_of_cell? w _ hx130_0)).trans hx130_0
              replace p130 := eq_true p130
              replace q130 := eq_true q130
              have p131 : 0 ≤ (x6_1 : Int) := of_decide_eq_true (by first | (with_reducible assumption) | assumption)
              have q131 : x6_1 < (l1.length : Int) := of_decide_eq_true (by first | (with_reducible assumption) | assumption)
              obtain ⟨ad131, e131, hx131_0⟩ := Kd.at_int HR1.out x6_1 p131 q131
              obtain rfl : ad130 = ad131 := (by injection e131)
              replace hx131_0 := (HB.out.cell (World.block_lt_of_cell? w _ hx131_0)).trans hx131_0
              replace p131 := eq_true p131
              replace q131 := eq_true q131
              go_wp2
              repeat (go_quiet (fail); try go_wp2)
              go_roundg k1
              case measure => have := HK1.out; omega
              case rel => exact ⟨(wrap64 (x5_1 + (wrap64 ((rd l1 x6_1) * (rd l1 x6_1))))), (wrap64 (x6_1 + 1)), (by first | rfl | (simp; done) | (simp [*]; done)), (by first | rfl | (simp; done) | (simp [*]; done)), H', ⟨by have := HK1.out; omega⟩, ⟨by repeat (first | (with_reducible first | exact HB.out | apply below_alloc | apply pw_below_drewN | apply below_drew1) | exact HB.out)⟩⟩
            · rw [if_neg c8] at H
              exact absurd H (by simp)
          · rw [if_neg c7] at H
            have c7b0 : (a0 == 2) = false := beq_eq_false_iff_ne.mpr c7
            have c7b1 : (a0 != 2) = true := bne_iff_ne.mpr c7
            by_cases c9 : 0 ≤ x6_1
            · rw [if_pos c9] at H
              have c9b0 : decide (0 ≤ x6_1) = true := decide_eq_true c9
              clear c9
              replace H := Option.bind_eq_some_iff.mp H
              obtain ⟨t133, A100, H⟩ := H
              replace H : (antiquaryref04_Norm.l0 k1 a0 l1 (mx x5_1 t133) (wrap64 (x6_1 + 1))) = some r := H
              have A10 := Aside0.mk A100
              clear A100
              obtain ⟨ji11, hji11⟩ : ∃ j_ : Int, (mx x5_1 t133) = j_ := ⟨_, rfl⟩
              replace H : (antiquaryref04_Norm.l0 k1 a0 l1 ji11 (wrap64 (x6_1 + 1))) = some r := by first | (rw [hji11] at H; exact H) | (simp only [hji11] at H ⊢; exact H)
              (try rw [hji11] at A10)
              have hji11_ : (if x5_1 < t133 then t133 else x5_1) = ji11 := hji11
              have H' := Aside0.mk H
              clear H
              have p132 : 0 ≤ (x6_1 : Int) := of_decide_eq_true (by first | (with_reducible assumption) | assumption)
              have q132 : x6_1 < (l1.length : Int) := of_decide_eq_true (by first | (with_reducible assumption) | assumption)
              obtain ⟨ad132, e132, hx132_0⟩ := Kd.at_int HR1.out x6_1 p132 q132
              cases e132
              replace hx132_0 := (HB.out.cell (World.block_lt_of_cell? w _ hx132_0)).trans hx132_0
              replace p132 := eq_true p132
              replace q132 := eq_true q132
              go_wp2_with (first | (go_at_call 81; (with_reducible refine (antiquaryref04_size.calls (rd l1 x6_1) t133 _ A10.out).mono ?_); rintro e w' ⟨rfl, ⟨nd, rfl⟩⟩; (try first | exact ⟨rfl, _, World.drewN_drewN _ _ _⟩ | exact ⟨rfl, _, Eq.trans (World.drewN_drewN _ _ _) (congrArg (World.drewN _) (Nat.add_assoc _ _ _))⟩)))
              repeat (go_quiet (first | (go_at_call 81; (with_reducible refine (antiquaryref04_size.calls (rd l1 x6_1) t133 _ A10.out).mono ?_); rintro e w' ⟨rfl, ⟨nd, rfl⟩⟩; (try first | exact ⟨rfl, _, World.drewN_drewN _ _ _⟩ | exact ⟨rfl, _, Eq.trans (World.drewN_drewN _ _ _) (congrArg (World.drewN _) (Nat.add_assoc _ _ _))⟩))); try go_wp2_with (first | (go_at_call 81; (with_reducible refine (antiquaryref04_size.calls (rd l1 x6_1) t133 _ A10.out).mono ?_); rintro e w' ⟨rfl, ⟨nd, rfl⟩⟩; (try first | exact ⟨rfl, _, World.drewN_drewN _ _ _⟩ | exact ⟨rfl, _, Eq.trans (World.drewN_drewN _ _ _) (congrArg (World.drewN _) (Nat.add_assoc _ _ _))⟩))))
              go_roundg k1
              case measure => have := HK1.out; omega
              case rel => exact ⟨(ji11), (wrap64 (x6_1 + 1)), (by first | rfl | (simp; done) | (simp only [← hji11] <;> (first | rfl | simp)) | (simp [*]; done)), (by first | rfl | (simp; done) | (simp [*]; done)), H', ⟨by have := HK1.out; omega⟩, ⟨by repeat (first | (with_reducible first | exact HB.out | apply below_alloc | apply pw_below_drewN | apply below_drew1) | exact HB.out)⟩⟩
            · rw [if_neg c9] at H
              exact absurd H (by simp)
      · rw [if_neg c3] at H
        have c3b0 : decide (x6_1 < (l1.length : Int)) = false := decide_eq_false c3
        clear c3
        obtain rfl := Option.some.inj H
        go_wp2
        repeat (go_quiet (fail); try go_wp2)
        go_ret
        exact ⟨by first | rfl | (simp [errW_none, errW_some] <;> rfl) | (simp [*, errW_none, errW_some] <;> rfl), by repeat (first | (with_reducible first | exact HB.out | apply below_alloc | apply pw_below_drewN | apply below_drew1) | exact HB.out)⟩
def cmpI (x y : Int) : Int := if x < y then -1 else if y < x then 1 else 0
def orI (x y : Int) : Int := if x = 0 then y else x
def orderF (ks : List Int) (a b : Int) : Int := orI (cmpI (rd ks a) (rd ks b)) (cmpI a b)
set_option maxHeartbeats 400000 in
theorem nanC (x : Int) (w : World) : Calls Tryz.prog 80 #[.int .i64 x] w fun e w' => e = .returned (.bool false) ∧ w' = w := by
  go_enter Tryz.func80, Tryz.ntmps80
  go_wp2
  go_ret
  exact ⟨ret_bool (by simp), rfl⟩
set_option maxHeartbeats 400000 in
set_option maxRecDepth 100000 in
theorem cmpC (x y : Int) (w : World) : Calls Tryz.prog 62 #[.int .i64 x, .int .i64 y] w fun e w' => e = .returned (.int .i64 (cmpI x y)) ∧ w' = w := by
  by_cases h1 : x < y
  · have e : cmpI x y = -1 := by simp [cmpI, h1]
    rw [e]; clear e
    go_enter Tryz.func62, Tryz.ntmps62
    go_wp2_with (go_at_call 80; refine (nanC _ _).mono ?_; rintro e w' ⟨rfl, rfl⟩)
    go_ret
    exact ⟨rfl, rfl⟩
  · by_cases h2 : y < x
    · have e : cmpI x y = 1 := by simp [cmpI, h1, h2]
      rw [e]; clear e
      go_enter Tryz.func62, Tryz.ntmps62
      go_wp2_with (go_at_call 80; refine (nanC _ _).mono ?_; rintro e w' ⟨rfl, rfl⟩)
      go_ret
      exact ⟨rfl, rfl⟩
    · have e : cmpI x y = 0 := by simp [cmpI, h1, h2]
      rw [e]; clear e
      go_enter Tryz.func62, Tryz.ntmps62
      go_wp2_with (go_at_call 80; refine (nanC _ _).mono ?_; rintro e w' ⟨rfl, rfl⟩)
      go_ret
      exact ⟨rfl, rfl⟩
theorem or_f (x y : Int) : cmp_Or_int.f 5 [x, y] = some (orI x y) := by
  have e1 : wrap64 1 = 1 := w64 (by omega)
  have e2 : wrap64 2 = 2 := w64 (by omega)
  have r0 : ∀ x y, rd [x, y] 0 = x := by intros; simp [rd]
  have r1 : ∀ x y, rd [x, y] 1 = y := by intros; simp [rd]
  by_cases hx : x = 0
  · by_cases hy : y = 0 <;> simp [cmp_Or_int.f, cmp_Or_int.l0, orI, e1, e2, r0, r1, hx, hy]
  · simp [cmp_Or_int.f, cmp_Or_int.l0, orI, r0, hx]
theorem C_two (W : World) (x y : Int) (t : TypeId) : Kd.C (Kd.int .i64) (W.alloc (.cells #[.int .i64 x, .int .i64 y] t)) (some ⟨W.heap.size, 0, none⟩) [x, y].length [x, y] := by
  refine Kd.C_of_reads (d := (0 : Int)) ⟨rfl, by simp, fun _ => ⟨_, rfl, fun j hj => ?_⟩⟩
  have h2 : j = 0 ∨ j = 1 := by simp at hj; omega
  have hb := blk_new W (.cells #[.int .i64 x, .int .i64 y] t)
  rcases h2 with rfl | rfl
  · rw [Addr.add]; simp only [if_true]; unfold World.cell?; rw [hb]; rfl
  · rw [Addr.add]; simp only [if_neg (by decide : ¬ (1 = 0))]; unfold World.cell?; rw [hb]; rfl
set_option maxHeartbeats 400000 in
set_option maxRecDepth 100000 in
theorem orderC (m : Int) (A1 : Option Addr) (n1 c1 : Nat) (A2 : Option Addr) (n2 c2 : Nat) (A4 : Option Addr) (c4 : Nat) (ks : List Int) (a b : Int) (w : World) (hk : Kd.C (Kd.int .i64) w A4 ks.length ks) (ha : 0 ≤ a ∧ a < ks.length) (hb : 0 ≤ b ∧ b < ks.length) :
    Calls Tryz.prog 37 #[searchV m A1 n1 c1 A2 n2 c2 A4 ks.length c4, .int .i64 a, .int .i64 b] w fun e w' => e = .returned (.int .i64 (orderF ks a b)) ∧ Below w.heap.size w w' := by
  obtain ⟨ad, rfl, hx⟩ := Kd.at_int hk a ha.1 ha.2
  obtain ⟨ad', h, hy⟩ := Kd.at_int hk b hb.1 hb.2
  cases h
  have hB := below_alloc (Below.refl _ w) (.cells #[.int .i64 m, .slice A1 n1 c1, .slice A2 n2 c2, .slice (some ad) ks.length c4] 65)
  have hx1 := (hB.cell (World.block_lt_of_cell? w _ hx)).trans hx
  have hy1 := (hB.cell (World.block_lt_of_cell? w _ hy)).trans hy
  have hn := blk_new w (.cells #[.int .i64 m, .slice A1 n1 c1, .slice A2 n2 c2, .slice (some ad) ks.length c4] 65)
  obtain ⟨ha1, ha2⟩ := ha
  obtain ⟨hb1, hb2⟩ := hb
  clear hk hx hy
  have hu := Tryz.underlying65
  unfold searchV
  go_enter Tryz.func37, Tryz.ntmps37
  go_upto_region 1 with fail
  generalize (w.alloc (.cells #[.int .i64 m, .slice A1 n1 c1, .slice A2 n2 c2, .slice (some ad) ks.length c4] 65)) = w1 at hB hx1 hy1 hn ⊢
  have c3 : w1.cell? ⟨w.heap.size, 3, none⟩ = some (.slice (some ad) ks.length c4) := by simp [World.cell?, hn]
  refine wp_region_still_tail 14 (by kernel_rfl) (by kernel_rfl) ?_
  simp only [List.take_succ_cons, List.take_zero, List.drop_succ_cons, List.drop_zero]
  have hB2 := below_drew hB
  replace c3 : w1.drew.cell? ⟨w.heap.size, 3, none⟩ = some (.slice (some ad) ks.length c4) := c3
  replace hx1 : w1.drew.cell? (ad.add a.toNat) = some (.int .i64 (rd ks a)) := hx1
  replace hy1 : w1.drew.cell? (ad.add b.toNat) = some (.int .i64 (rd ks b)) := hy1
  change wpStill _ _ w1.drew _ _ _
  generalize hw : w1.drew = w2 at hB2 c3 hx1 hy1 ⊢
  have HW := Aside0.mk hw
  clear hB hn hw
  repeat still_step
  still_call (cmpC _ _ _)
  repeat still_step
  still_call (cmpC _ _ _)
  repeat still_step
  refine wpStill_nil ?_
  change wpList _ _ _ _ _ w1.drew
  rw [HW.out]
  have HO := Aside0.mk (cmp_Or_int.calls 5 _ 2 _ _ _ (C_two w2 (cmpI (rd ks a) (rd ks b)) (cmpI a b) 3) (by simp) (or_f _ _))
  have HB2 := Aside0.mk (below_alloc hB2 (.cells #[.int .i64 (cmpI (rd ks a) (rd ks b)), .int .i64 (cmpI a b)] 3))
  clear hB2
  go_wp2_with fail
  refine HO.out.mono ?_
  rintro e w3 ⟨rfl, hd⟩
  have HB3 := Aside0.mk (below_step HB2.out hd.below)
  clear hd
  go_wp2
  go_ret
  exact ⟨rfl, HB3.out⟩
def stepMin (F : Int → Int → Int) (m y : Int) : Int := if F y m < 0 then y else m
def minF (F : Int → Int → Int) : List Int → Int
  | [] => 0
  | x :: r => r.foldl (stepMin F) x
theorem minF_snoc (F : Int → Int → Int) (xs : List Int) (y : Int) (h : 1 ≤ xs.length) : minF F (xs ++ [y]) = stepMin F (minF F xs) y := by
  cases xs with
  | nil => simp at h
  | cons x r => simp [minF, List.foldl_append]
theorem foldMin_mem (F : Int → Int → Int) (r : List Int) : ∀ x, r.foldl (stepMin F) x ∈ x :: r := by
  induction r with
  | nil => intro x; simp
  | cons y r ih =>
    intro x
    rw [List.foldl_cons]
    have := ih (stepMin F x y)
    unfold stepMin at this ⊢
    split at this <;> simp_all <;> grind
theorem minF_mem (F : Int → Int → Int) (xs : List Int) (h : 1 ≤ xs.length) : minF F xs ∈ xs := by
  cases xs with
  | nil => simp at h
  | cons x r => exact foldMin_mem F r x
def OrdC (g : Nat) (recv : Value) (n : Nat) (F : Int → Int → Int) (w : World) : Prop :=
  ∀ W, Below w.heap.size w W → ∀ a b, 0 ≤ a ∧ a < (n : Int) → 0 ≤ b ∧ b < (n : Int) → Calls Tryz.prog g #[recv, .int .i64 a, .int .i64 b] W fun e w' => e = .returned (.int .i64 (F a b)) ∧ Below W.heap.size W w'
set_option maxHeartbeats 400000 in
set_option maxRecDepth 100000 in
theorem minC (recv : Value) (n : Nat) (F : Int → Int → Int) (A : Option Addr) (c : Nat) (xs : List Int) (w : World) (ho : OrdC 37 recv n F w) (hx : Kd.C (Kd.int .i64) w A xs.length xs) (h1 : 1 ≤ xs.length) (hin : ∀ x ∈ xs, 0 ≤ x ∧ x < (n : Int)) :
    Calls Tryz.prog 58 #[.slice A xs.length c, .func (.func 37) #[recv] #[]] w fun e w' => e = .returned (.int .i64 (minF F xs)) ∧ Below w.heap.size w w' := by
  obtain ⟨ad, rfl, hz⟩ := Kd.at_int hx 0 (by omega) (by omega)
  have hm := Kd.C_max hx
  simp only [Int.toNat_zero] at hz
  have hz2 : w.cell? ad = some (.int .i64 (rd xs 0)) := by simpa [Addr.add] using hz
  have HX := Aside0.mk hx
  have HO := Aside0.mk ho
  have HI := Aside0.mk hin
  clear hx ho hin hz
  go_enter Tryz.func58, Tryz.ntmps58
  go_wp2_with fail
  clear hz2
  go_loopw [5, 6] (fun m i wr => ∃ k : Nat, 1 ≤ k ∧ k ≤ xs.length ∧ i = .int .i64 k ∧ m = .int .i64 (minF F (xs.take k)) ∧ Below w.heap.size w wr) (fun _ i _ => xs.length - (intOf i).toNat)
  case atStart =>
    refine ⟨1, by omega, h1, rfl, ?_, Below.refl _ _⟩
    cases xs with
    | nil => simp at h1
    | cons x r => simp [minF, rd]
  case round =>
    obtain ⟨k, hk1, hk, rfl, rfl, hB⟩ := hrel
    have HB := Aside0.mk hB
    by_cases hlt : k < xs.length
    · obtain ⟨ad', h, hc⟩ := Kd.at_int (Kd.C_below HX.out hB) k (by omega) (by omega)
      cases h
      simp only [Int.toNat_natCast] at hc
      have hl := List.length_take_of_le hk
      have hmm := minF_mem F (xs.take k) (by omega)
      have e : minF F (xs.take (k + 1)) = stepMin F (minF F (xs.take k)) (rd xs k) := by
        rw [take_succ_rd xs k hlt, minF_snoc F _ _ (by omega)]
      have HC := Aside0.mk (HO.out wr hB (rd xs k) (minF F (xs.take k)) (HI.out _ (rd_mem (by omega) (by omega))) (HI.out _ (List.mem_of_mem_take hmm)))
      have HE := Aside0.mk e
      clear e hmm hl hB
      generalize minF F (xs.take k) = mk at HC HE ⊢
      generalize hy : rd xs k = y at hc HC HE ⊢
      go_wp2_with fail
      refine HC.out.mono ?_
      rintro e w' ⟨rfl, hb⟩
      have HB2 := Aside0.mk (below_step HB.out hb)
      have hc2 := (hb.cell (World.block_lt_of_cell? _ _ hc)).trans hc
      clear hb
      by_cases hF : F y mk < 0
      · go_wp2
        go_roundw
        case rel => exact ⟨k + 1, by omega, by omega, by go_num, by rw [HE.out, stepMin, if_pos hF], HB2.out⟩
        case measure => simp [intOf]; omega
      · go_wp2
        go_roundw
        case rel => exact ⟨k + 1, by omega, by omega, by go_num, by rw [HE.out, stepMin, if_neg (by omega)], HB2.out⟩
        case measure => simp [intOf]; omega
    · have e : xs.take k = xs := List.take_of_length_le (by omega)
      rw [e]
      clear e hB
      go_wp2
      go_ret
      exact ⟨rfl, HB.out⟩
end Go.Proofs.YthbkomkgciemiaaGreat.PKF
