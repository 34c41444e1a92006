/- An act on no heap, and on a zero one. -/
import Derived.Test.YthjokcjdphempaaVoid
namespace Go.Proofs.Ythjokcjdphempaa
open Go.RowKit Hp Go.Shelf

/-- The result's cells as they are before the one store. -/
structure Cells4 (w2 : World) (b : Nat) : Prop where
  c0 : w2.cell? ⟨b, 0, none⟩ = some (.int .i64 0)
  c1 : w2.cell? ⟨b, 1, none⟩ = some (.int .i64 0)
  c2 : w2.cell? ⟨b, 2, none⟩ = some (.int .i64 0)
  c3 : w2.cell? ⟨b, 3, none⟩ = some (.int .i64 0)
  z0 : w2.frozen? ⟨b, 0, none⟩ = false
  z1 : w2.frozen? ⟨b, 1, none⟩ = false
  z2 : w2.frozen? ⟨b, 2, none⟩ = false
  z3 : w2.frozen? ⟨b, 3, none⟩ = false
  s0 : w2.setCell ⟨b, 0, none⟩ (.int .i64 0) = w2
  s1 : w2.setCell ⟨b, 1, none⟩ (.int .i64 0) = w2
  s2 : w2.setCell ⟨b, 2, none⟩ (.int .i64 0) = w2

theorem cells4 {w w2 : World} {o : Obj} (hf : Fr (fun _ => False) ((w.alloc o).alloc (.cells #[.int .i64 0, .int .i64 0, .int .i64 0, .int .i64 0] 30)) w2) : Cells4 w2 (w.heap.size + 1) := by
  have hn := World.alloc_heap_new (w.alloc o) (.cells #[.int .i64 0, .int .i64 0, .int .i64 0, .int .i64 0] 30)
  rw [show (w.alloc o).heap.size = w.heap.size + 1 by simp] at hn
  have hx : w2.heap[w.heap.size + 1]? = some (.cells #[.int .i64 0, .int .i64 0, .int .i64 0, .int .i64 0] 30 (0, 0)) := by
    rw [hf.block _ (Array.getElem?_eq_some_iff.1 hn).1 id]; exact hn
  exact ⟨by simp only [World.cell?, hx]; rfl, by simp only [World.cell?, hx]; rfl, by simp only [World.cell?, hx]; rfl, by simp only [World.cell?, hx]; rfl, by simp [World.frozen?, hx], by simp [World.frozen?, hx], by simp [World.frozen?, hx], by simp [World.frozen?, hx], setCell_same_at (k := 0) rfl hx rfl, setCell_same_at (k := 1) rfl hx rfl, setCell_same_at (k := 2) rfl hx rfl⟩

theorem Cells4.read {w2 : World} {b : Nat} (h : Cells4 w2 b) (v : Value) : (w2.setCell ⟨b, 3, none⟩ v).cell? ⟨b, 0, none⟩ = some (.int .i64 0) ∧ (w2.setCell ⟨b, 3, none⟩ v).cell? ⟨b, 1, none⟩ = some (.int .i64 0) ∧ (w2.setCell ⟨b, 3, none⟩ v).cell? ⟨b, 2, none⟩ = some (.int .i64 0) ∧ (w2.setCell ⟨b, 3, none⟩ v).cell? ⟨b, 3, none⟩ = some v :=
  ⟨by rw [World.cell?_setCell_other _ _ _ _ (by simp)]; exact h.c0, by rw [World.cell?_setCell_other _ _ _ _ (by simp)]; exact h.c1, by rw [World.cell?_setCell_other _ _ _ _ (by simp)]; exact h.c2, World.cell?_setCell_same _ _ _ h.c3⟩

set_option maxRecDepth 100000 in
set_option maxHeartbeats 2000000 in
theorem do_0 {hp : Option Addr} {kd a b c d : Int} {w : World} (h : Void hp w) (hk : kd.tmod 15 = 0) : Calls Try.prog 11 #[.pointer hp, .agg #[.int .u8 kd, .int .i64 a, .int .i64 b, .int .i64 c, .int .i64 d]] w fun e w' => e = .returned (onlyV 9) ∧ Fr (fun _ => False) w w' := by
  have hf0 : Fr (fun _ => False) w ((w.alloc (.cells #[.int .u8 kd, .int .i64 a, .int .i64 b, .int .i64 c, .int .i64 d] 33)).alloc (.cells #[.int .i64 0, .int .i64 0, .int .i64 0, .int .i64 0] 30)) := (fr_alloc1 _ _).trans (fr_alloc1 _ _) fun _ h => h.elim
  have HF := Lib.hid hf0
  have HV := Lib.hid (h.of_fr hf0)
  clear h hf0
  go_enter Try.func11, Try.ntmps11
  go_wp2_with (first | (go_at_call 27; refine (Grow_void HV.out).mono ?_; rintro e w1 ⟨rfl, hf⟩; have H1 := Lib.hid hf; clear hf) | (go_at_call 25; refine only_any.mono ?_; rintro e w2 ⟨rfl, hf⟩; have hf2 := H1.out.trans hf fun _ h => h.elim; have H2 := Lib.hid hf2; obtain ⟨c0, c1, c2, c3, z0, z1, z2, z3, s0, s1, s2⟩ := cells4 hf2; clear hf hf2))
  obtain ⟨r0, r1, r2, r3⟩ := (cells4 H2.out).read (.int .i64 9)
  refine ⟨rfl, onlyV 9, ?_, rfl, (HF.out.trans H2.out fun _ h => h.elim).trans (fr_setCell w2 (w.heap.size + 1) 3 (.int .i64 9)) fun j hj => .inr (by omega)⟩
  simp [results, Try.results11, go_sem, r0, r1, r2, r3, onlyV]

set_option maxRecDepth 100000 in
set_option maxHeartbeats 2000000 in
theorem do_1 {hp : Option Addr} {kd a b c d : Int} {w : World} (h : Void hp w) (hk : kd.tmod 15 = 1) : Calls Try.prog 11 #[.pointer hp, .agg #[.int .u8 kd, .int .i64 a, .int .i64 b, .int .i64 c, .int .i64 d]] w fun e w' => e = .returned (onlyV 9) ∧ Fr (fun _ => False) w w' := by
  have hf0 : Fr (fun _ => False) w ((w.alloc (.cells #[.int .u8 kd, .int .i64 a, .int .i64 b, .int .i64 c, .int .i64 d] 33)).alloc (.cells #[.int .i64 0, .int .i64 0, .int .i64 0, .int .i64 0] 30)) := (fr_alloc1 _ _).trans (fr_alloc1 _ _) fun _ h => h.elim
  have HF := Lib.hid hf0
  have HV := Lib.hid (h.of_fr hf0)
  clear h hf0
  go_enter Try.func11, Try.ntmps11
  go_wp2_with (first | (go_at_call 24; refine (Shrink_void HV.out).mono ?_; rintro e w1 ⟨rfl, hf⟩; have H1 := Lib.hid hf; clear hf) | (go_at_call 25; refine only_any.mono ?_; rintro e w2 ⟨rfl, hf⟩; have hf2 := H1.out.trans hf fun _ h => h.elim; have H2 := Lib.hid hf2; obtain ⟨c0, c1, c2, c3, z0, z1, z2, z3, s0, s1, s2⟩ := cells4 hf2; clear hf hf2))
  obtain ⟨r0, r1, r2, r3⟩ := (cells4 H2.out).read (.int .i64 9)
  refine ⟨rfl, onlyV 9, ?_, rfl, (HF.out.trans H2.out fun _ h => h.elim).trans (fr_setCell w2 (w.heap.size + 1) 3 (.int .i64 9)) fun j hj => .inr (by omega)⟩
  simp [results, Try.results11, go_sem, r0, r1, r2, r3, onlyV]

set_option maxRecDepth 100000 in
set_option maxHeartbeats 2000000 in
theorem do_2 {hp : Option Addr} {kd a b c d : Int} {w : World} (h : Void hp w) (hk : kd.tmod 15 = 2) : Calls Try.prog 11 #[.pointer hp, .agg #[.int .u8 kd, .int .i64 a, .int .i64 b, .int .i64 c, .int .i64 d]] w fun e w' => e = .returned (onlyV 9) ∧ Fr (fun _ => False) w w' := by
  have hf0 : Fr (fun _ => False) w ((w.alloc (.cells #[.int .u8 kd, .int .i64 a, .int .i64 b, .int .i64 c, .int .i64 d] 33)).alloc (.cells #[.int .i64 0, .int .i64 0, .int .i64 0, .int .i64 0] 30)) := (fr_alloc1 _ _).trans (fr_alloc1 _ _) fun _ h => h.elim
  have HF := Lib.hid hf0
  have HV := Lib.hid (h.of_fr hf0)
  clear h hf0
  go_enter Try.func11, Try.ntmps11
  go_wp2_with (first | (go_at_call 14; refine (Make_void HV.out).mono ?_; rintro e w1 ⟨rfl, hf⟩; have H1 := Lib.hid hf; clear hf) | (go_at_call 25; refine only_any.mono ?_; rintro e w2 ⟨rfl, hf⟩; have hf2 := H1.out.trans hf fun _ h => h.elim; have H2 := Lib.hid hf2; obtain ⟨c0, c1, c2, c3, z0, z1, z2, z3, s0, s1, s2⟩ := cells4 hf2; clear hf hf2))
  obtain ⟨r0, r1, r2, r3⟩ := (cells4 H2.out).read (.int .i64 9)
  refine ⟨rfl, onlyV 9, ?_, rfl, (HF.out.trans H2.out fun _ h => h.elim).trans (fr_setCell w2 (w.heap.size + 1) 3 (.int .i64 9)) fun j hj => .inr (by omega)⟩
  simp [results, Try.results11, go_sem, r0, r1, r2, r3, onlyV]

set_option maxRecDepth 100000 in
set_option maxHeartbeats 2000000 in
theorem do_3 {hp : Option Addr} {kd a b c d : Int} {w : World} (h : Void hp w) (hk : kd.tmod 15 = 3) : Calls Try.prog 11 #[.pointer hp, .agg #[.int .u8 kd, .int .i64 a, .int .i64 b, .int .i64 c, .int .i64 d]] w fun e w' => e = .returned (onlyV 9) ∧ Fr (fun _ => False) w w' := by
  have hf0 : Fr (fun _ => False) w ((w.alloc (.cells #[.int .u8 kd, .int .i64 a, .int .i64 b, .int .i64 c, .int .i64 d] 33)).alloc (.cells #[.int .i64 0, .int .i64 0, .int .i64 0, .int .i64 0] 30)) := (fr_alloc1 _ _).trans (fr_alloc1 _ _) fun _ h => h.elim
  have HF := Lib.hid hf0
  have HV := Lib.hid (h.of_fr hf0)
  clear h hf0
  go_enter Try.func11, Try.ntmps11
  go_wp2_with (first | (go_at_call 33; refine (Copy_void HV.out).mono ?_; rintro e w1 ⟨rfl, hf⟩; have H1 := Lib.hid hf; clear hf) | (go_at_call 25; refine only_any.mono ?_; rintro e w2 ⟨rfl, hf⟩; have hf2 := H1.out.trans hf fun _ h => h.elim; have H2 := Lib.hid hf2; obtain ⟨c0, c1, c2, c3, z0, z1, z2, z3, s0, s1, s2⟩ := cells4 hf2; clear hf hf2))
  obtain ⟨r0, r1, r2, r3⟩ := (cells4 H2.out).read (.int .i64 9)
  refine ⟨rfl, onlyV 9, ?_, rfl, (HF.out.trans H2.out fun _ h => h.elim).trans (fr_setCell w2 (w.heap.size + 1) 3 (.int .i64 9)) fun j hj => .inr (by omega)⟩
  simp [results, Try.results11, go_sem, r0, r1, r2, r3, onlyV]

set_option maxRecDepth 100000 in
set_option maxHeartbeats 2000000 in
theorem do_4 {hp : Option Addr} {kd a b c d : Int} {w : World} (h : Void hp w) (hk : kd.tmod 15 = 4) : Calls Try.prog 11 #[.pointer hp, .agg #[.int .u8 kd, .int .i64 a, .int .i64 b, .int .i64 c, .int .i64 d]] w fun e w' => e = .returned (onlyV 9) ∧ Fr (fun _ => False) w w' := by
  have hf0 : Fr (fun _ => False) w ((w.alloc (.cells #[.int .u8 kd, .int .i64 a, .int .i64 b, .int .i64 c, .int .i64 d] 33)).alloc (.cells #[.int .i64 0, .int .i64 0, .int .i64 0, .int .i64 0] 30)) := (fr_alloc1 _ _).trans (fr_alloc1 _ _) fun _ h => h.elim
  have HF := Lib.hid hf0
  have HV := Lib.hid (h.of_fr hf0)
  clear h hf0
  go_enter Try.func11, Try.ntmps11
  go_wp2_with (first | (go_at_call 34; refine (Clear_void HV.out).mono ?_; rintro e w1 ⟨rfl, hf⟩; have H1 := Lib.hid hf; clear hf) | (go_at_call 25; refine only_any.mono ?_; rintro e w2 ⟨rfl, hf⟩; have hf2 := H1.out.trans hf fun _ h => h.elim; have H2 := Lib.hid hf2; obtain ⟨c0, c1, c2, c3, z0, z1, z2, z3, s0, s1, s2⟩ := cells4 hf2; clear hf hf2))
  obtain ⟨r0, r1, r2, r3⟩ := (cells4 H2.out).read (.int .i64 9)
  refine ⟨rfl, onlyV 9, ?_, rfl, (HF.out.trans H2.out fun _ h => h.elim).trans (fr_setCell w2 (w.heap.size + 1) 3 (.int .i64 9)) fun j hj => .inr (by omega)⟩
  simp [results, Try.results11, go_sem, r0, r1, r2, r3, onlyV]

set_option maxRecDepth 100000 in
set_option maxHeartbeats 2000000 in
theorem do_5 {hp : Option Addr} {kd a b c d : Int} {w : World} (h : Void hp w) (hk : kd.tmod 15 = 5) : Calls Try.prog 11 #[.pointer hp, .agg #[.int .u8 kd, .int .i64 a, .int .i64 b, .int .i64 c, .int .i64 d]] w fun e w' => e = .returned (onlyV 9) ∧ Fr (fun _ => False) w w' := by
  have hf0 : Fr (fun _ => False) w ((w.alloc (.cells #[.int .u8 kd, .int .i64 a, .int .i64 b, .int .i64 c, .int .i64 d] 33)).alloc (.cells #[.int .i64 0, .int .i64 0, .int .i64 0, .int .i64 0] 30)) := (fr_alloc1 _ _).trans (fr_alloc1 _ _) fun _ h => h.elim
  have HF := Lib.hid hf0
  have HV := Lib.hid (h.of_fr hf0)
  clear h hf0
  go_enter Try.func11, Try.ntmps11
  go_wp2_with (first | (go_at_call 30; refine (Get_void HV.out).mono ?_; rintro e w1 ⟨rfl, hf⟩; have H1 := Lib.hid hf; clear hf) | (go_at_call 25; refine only_any.mono ?_; rintro e w2 ⟨rfl, hf⟩; have hf2 := H1.out.trans hf fun _ h => h.elim; have H2 := Lib.hid hf2; obtain ⟨c0, c1, c2, c3, z0, z1, z2, z3, s0, s1, s2⟩ := cells4 hf2; clear hf hf2))
  obtain ⟨r0, r1, r2, r3⟩ := (cells4 H2.out).read (.int .i64 9)
  refine ⟨rfl, onlyV 9, ?_, rfl, (HF.out.trans H2.out fun _ h => h.elim).trans (fr_setCell w2 (w.heap.size + 1) 3 (.int .i64 9)) fun j hj => .inr (by omega)⟩
  simp [results, Try.results11, go_sem, r0, r1, r2, r3, onlyV]

set_option maxRecDepth 100000 in
set_option maxHeartbeats 2000000 in
theorem do_6 {hp : Option Addr} {kd a b c d : Int} {w : World} (h : Void hp w) (hk : kd.tmod 15 = 6) : Calls Try.prog 11 #[.pointer hp, .agg #[.int .u8 kd, .int .i64 a, .int .i64 b, .int .i64 c, .int .i64 d]] w fun e w' => e = .returned (onlyV 9) ∧ Fr (fun _ => False) w w' := by
  have hf0 : Fr (fun _ => False) w ((w.alloc (.cells #[.int .u8 kd, .int .i64 a, .int .i64 b, .int .i64 c, .int .i64 d] 33)).alloc (.cells #[.int .i64 0, .int .i64 0, .int .i64 0, .int .i64 0] 30)) := (fr_alloc1 _ _).trans (fr_alloc1 _ _) fun _ h => h.elim
  have HF := Lib.hid hf0
  have HV := Lib.hid (h.of_fr hf0)
  clear h hf0
  go_enter Try.func11, Try.ntmps11
  go_wp2_with (first | (go_at_call 28; refine (Set_void HV.out).mono ?_; rintro e w1 ⟨rfl, hf⟩; have H1 := Lib.hid hf; clear hf) | (go_at_call 25; refine only_any.mono ?_; rintro e w2 ⟨rfl, hf⟩; have hf2 := H1.out.trans hf fun _ h => h.elim; have H2 := Lib.hid hf2; obtain ⟨c0, c1, c2, c3, z0, z1, z2, z3, s0, s1, s2⟩ := cells4 hf2; clear hf hf2))
  obtain ⟨r0, r1, r2, r3⟩ := (cells4 H2.out).read (.int .i64 9)
  refine ⟨rfl, onlyV 9, ?_, rfl, (HF.out.trans H2.out fun _ h => h.elim).trans (fr_setCell w2 (w.heap.size + 1) 3 (.int .i64 9)) fun j hj => .inr (by omega)⟩
  simp [results, Try.results11, go_sem, r0, r1, r2, r3, onlyV]

set_option maxRecDepth 100000 in
set_option maxHeartbeats 2000000 in
theorem do_7 {hp : Option Addr} {kd a b c d : Int} {w : World} (h : Void hp w) (hk : kd.tmod 15 = 7) : Calls Try.prog 11 #[.pointer hp, .agg #[.int .u8 kd, .int .i64 a, .int .i64 b, .int .i64 c, .int .i64 d]] w fun e w' => e = .returned (onlyV 9) ∧ Fr (fun _ => False) w w' := by
  have hf0 : Fr (fun _ => False) w ((w.alloc (.cells #[.int .u8 kd, .int .i64 a, .int .i64 b, .int .i64 c, .int .i64 d] 33)).alloc (.cells #[.int .i64 0, .int .i64 0, .int .i64 0, .int .i64 0] 30)) := (fr_alloc1 _ _).trans (fr_alloc1 _ _) fun _ h => h.elim
  have HF := Lib.hid hf0
  have HV := Lib.hid (h.of_fr hf0)
  clear h hf0
  go_enter Try.func11, Try.ntmps11
  go_wp2_with ((go_at_call 32; refine (Load_void HV.out).mono ?_; rintro e w2 ⟨rfl, hf⟩; have H2 := Lib.hid hf; obtain ⟨c0, c1, c2, c3, z0, z1, z2, z3, s0, s1, s2⟩ := cells4 hf; clear hf))
  obtain ⟨r0, r1, r2, r3⟩ := (cells4 H2.out).read (.int .i64 9)
  refine ⟨rfl, onlyV 9, ?_, rfl, (HF.out.trans H2.out fun _ h => h.elim).trans (fr_setCell w2 (w.heap.size + 1) 3 (.int .i64 9)) fun j hj => .inr (by omega)⟩
  simp [results, Try.results11, go_sem, r0, r1, r2, r3, onlyV]

set_option maxRecDepth 100000 in
set_option maxHeartbeats 2000000 in
theorem do_8 {hp : Option Addr} {kd a b c d : Int} {w : World} (h : Void hp w) (hk : kd.tmod 15 = 8) : Calls Try.prog 11 #[.pointer hp, .agg #[.int .u8 kd, .int .i64 a, .int .i64 b, .int .i64 c, .int .i64 d]] w fun e w' => e = .returned (onlyV 9) ∧ Fr (fun _ => False) w w' := by
  have hf0 : Fr (fun _ => False) w ((w.alloc (.cells #[.int .u8 kd, .int .i64 a, .int .i64 b, .int .i64 c, .int .i64 d] 33)).alloc (.cells #[.int .i64 0, .int .i64 0, .int .i64 0, .int .i64 0] 30)) := (fr_alloc1 _ _).trans (fr_alloc1 _ _) fun _ h => h.elim
  have HF := Lib.hid hf0
  have HV := Lib.hid (h.of_fr hf0)
  clear h hf0
  go_enter Try.func11, Try.ntmps11
  go_wp2_with (first | (go_at_call 29; refine (Store_void HV.out).mono ?_; rintro e w1 ⟨rfl, hf⟩; have H1 := Lib.hid hf; clear hf) | (go_at_call 25; refine only_any.mono ?_; rintro e w2 ⟨rfl, hf⟩; have hf2 := H1.out.trans hf fun _ h => h.elim; have H2 := Lib.hid hf2; obtain ⟨c0, c1, c2, c3, z0, z1, z2, z3, s0, s1, s2⟩ := cells4 hf2; clear hf hf2))
  obtain ⟨r0, r1, r2, r3⟩ := (cells4 H2.out).read (.int .i64 9)
  refine ⟨rfl, onlyV 9, ?_, rfl, (HF.out.trans H2.out fun _ h => h.elim).trans (fr_setCell w2 (w.heap.size + 1) 3 (.int .i64 9)) fun j hj => .inr (by omega)⟩
  simp [results, Try.results11, go_sem, r0, r1, r2, r3, onlyV]

set_option maxRecDepth 100000 in
set_option maxHeartbeats 2000000 in
theorem do_9 {hp : Option Addr} {kd a b c d : Int} {w : World} (h : Void hp w) (hk : kd.tmod 15 = 9) : Calls Try.prog 11 #[.pointer hp, .agg #[.int .u8 kd, .int .i64 a, .int .i64 b, .int .i64 c, .int .i64 d]] w fun e w' => e = .returned (onlyV 9) ∧ Fr (fun _ => False) w w' := by
  have hf0 : Fr (fun _ => False) w ((w.alloc (.cells #[.int .u8 kd, .int .i64 a, .int .i64 b, .int .i64 c, .int .i64 d] 33)).alloc (.cells #[.int .i64 0, .int .i64 0, .int .i64 0, .int .i64 0] 30)) := (fr_alloc1 _ _).trans (fr_alloc1 _ _) fun _ h => h.elim
  have HF := Lib.hid hf0
  have HV := Lib.hid (h.of_fr hf0)
  clear h hf0
  go_enter Try.func11, Try.ntmps11
  go_wp2_with ((go_at_call 17; refine (Shape_void HV.out).mono ?_; rintro e w2 ⟨rfl, hf⟩; have H2 := Lib.hid hf; obtain ⟨c0, c1, c2, c3, z0, z1, z2, z3, s0, s1, s2⟩ := cells4 hf; clear hf))
  obtain ⟨r0, r1, r2, r3⟩ := (cells4 H2.out).read (.int .i64 9)
  refine ⟨rfl, onlyV 9, ?_, rfl, (HF.out.trans H2.out fun _ h => h.elim).trans (fr_setCell w2 (w.heap.size + 1) 3 (.int .i64 9)) fun j hj => .inr (by omega)⟩
  simp [results, Try.results11, go_sem, r0, r1, r2, r3, onlyV]

set_option maxRecDepth 100000 in
set_option maxHeartbeats 2000000 in
theorem do_10 {hp : Option Addr} {kd a b c d : Int} {w : World} (h : Void hp w) (hk : kd.tmod 15 = 10) : Calls Try.prog 11 #[.pointer hp, .agg #[.int .u8 kd, .int .i64 a, .int .i64 b, .int .i64 c, .int .i64 d]] w fun e w' => e = .returned (onlyV 9) ∧ Fr (fun _ => False) w w' := by
  have hf0 : Fr (fun _ => False) w ((w.alloc (.cells #[.int .u8 kd, .int .i64 a, .int .i64 b, .int .i64 c, .int .i64 d] 33)).alloc (.cells #[.int .i64 0, .int .i64 0, .int .i64 0, .int .i64 0] 30)) := (fr_alloc1 _ _).trans (fr_alloc1 _ _) fun _ h => h.elim
  have HF := Lib.hid hf0
  have HV := Lib.hid (h.of_fr hf0)
  clear h hf0
  go_enter Try.func11, Try.ntmps11
  go_wp2_with (first | (go_at_call 35; refine (Empty_void HV.out).mono ?_; rintro e w2 ⟨rfl, hf⟩; have H2 := Lib.hid hf; obtain ⟨c0, c1, c2, c3, z0, z1, z2, z3, s0, s1, s2⟩ := cells4 hf; clear hf) | (go_at_call 36; refine truth_no.mono ?_; rintro e w2 ⟨rfl, rfl⟩))
  obtain ⟨r0, r1, r2, r3⟩ := (cells4 H2.out).read (.int .i64 9)
  refine ⟨rfl, onlyV 9, ?_, rfl, (HF.out.trans H2.out fun _ h => h.elim).trans (fr_setCell w2 (w.heap.size + 1) 3 (.int .i64 9)) fun j hj => .inr (by omega)⟩
  simp [results, Try.results11, go_sem, r0, r1, r2, r3, onlyV]

set_option maxRecDepth 100000 in
set_option maxHeartbeats 2000000 in
theorem do_11 {hp : Option Addr} {kd a b c d : Int} {w : World} (h : Void hp w) (hk : kd.tmod 15 = 11) : Calls Try.prog 11 #[.pointer hp, .agg #[.int .u8 kd, .int .i64 a, .int .i64 b, .int .i64 c, .int .i64 d]] w fun e w' => e = .returned (onlyV 9) ∧ Fr (fun _ => False) w w' := by
  have hf0 : Fr (fun _ => False) w ((w.alloc (.cells #[.int .u8 kd, .int .i64 a, .int .i64 b, .int .i64 c, .int .i64 d] 33)).alloc (.cells #[.int .i64 0, .int .i64 0, .int .i64 0, .int .i64 0] 30)) := (fr_alloc1 _ _).trans (fr_alloc1 _ _) fun _ h => h.elim
  have HF := Lib.hid hf0
  have HV := Lib.hid (h.of_fr hf0)
  clear h hf0
  go_enter Try.func11, Try.ntmps11
  go_wp2_with (first | (go_at_call 31; refine (Alike_void HV.out).mono ?_; rintro e w2 ⟨rfl, hf⟩; have H2 := Lib.hid hf; obtain ⟨c0, c1, c2, c3, z0, z1, z2, z3, s0, s1, s2⟩ := cells4 hf; clear hf) | (go_at_call 36; refine truth_no.mono ?_; rintro e w2 ⟨rfl, rfl⟩))
  obtain ⟨r0, r1, r2, r3⟩ := (cells4 H2.out).read (.int .i64 9)
  refine ⟨rfl, onlyV 9, ?_, rfl, (HF.out.trans H2.out fun _ h => h.elim).trans (fr_setCell w2 (w.heap.size + 1) 3 (.int .i64 9)) fun j hj => .inr (by omega)⟩
  simp [results, Try.results11, go_sem, r0, r1, r2, r3, onlyV]

set_option maxRecDepth 100000 in
set_option maxHeartbeats 2000000 in
theorem do_12 {hp : Option Addr} {kd a b c d : Int} {w : World} (h : Void hp w) (hk : kd.tmod 15 = 12) : Calls Try.prog 11 #[.pointer hp, .agg #[.int .u8 kd, .int .i64 a, .int .i64 b, .int .i64 c, .int .i64 d]] w fun e w' => e = .returned (onlyV 9) ∧ Fr (fun _ => False) w w' := by
  have hf0 : Fr (fun _ => False) w ((w.alloc (.cells #[.int .u8 kd, .int .i64 a, .int .i64 b, .int .i64 c, .int .i64 d] 33)).alloc (.cells #[.int .i64 0, .int .i64 0, .int .i64 0, .int .i64 0] 30)) := (fr_alloc1 _ _).trans (fr_alloc1 _ _) fun _ h => h.elim
  have HF := Lib.hid hf0
  have HV := Lib.hid (h.of_fr hf0)
  clear h hf0
  go_enter Try.func11, Try.ntmps11
  go_wp2_with (first | (go_at_call 19; refine (Step_void HV.out).mono ?_; rintro e w1 ⟨rfl, hf⟩; have H1 := Lib.hid hf; clear hf) | (go_at_call 25; refine only_any.mono ?_; rintro e w2 ⟨rfl, hf⟩; have hf2 := H1.out.trans hf fun _ h => h.elim; have H2 := Lib.hid hf2; obtain ⟨c0, c1, c2, c3, z0, z1, z2, z3, s0, s1, s2⟩ := cells4 hf2; clear hf hf2))
  obtain ⟨r0, r1, r2, r3⟩ := (cells4 H2.out).read (.int .i64 9)
  refine ⟨rfl, onlyV 9, ?_, rfl, (HF.out.trans H2.out fun _ h => h.elim).trans (fr_setCell w2 (w.heap.size + 1) 3 (.int .i64 9)) fun j hj => .inr (by omega)⟩
  simp [results, Try.results11, go_sem, r0, r1, r2, r3, onlyV]

set_option maxRecDepth 100000 in
set_option maxHeartbeats 2000000 in
theorem do_13 {hp : Option Addr} {kd a b c d : Int} {w : World} (h : Void hp w) (hk : kd.tmod 15 = 13) : Calls Try.prog 11 #[.pointer hp, .agg #[.int .u8 kd, .int .i64 a, .int .i64 b, .int .i64 c, .int .i64 d]] w fun e w' => e = .returned (onlyV 9) ∧ Fr (fun _ => False) w w' := by
  have hf0 : Fr (fun _ => False) w ((w.alloc (.cells #[.int .u8 kd, .int .i64 a, .int .i64 b, .int .i64 c, .int .i64 d] 33)).alloc (.cells #[.int .i64 0, .int .i64 0, .int .i64 0, .int .i64 0] 30)) := (fr_alloc1 _ _).trans (fr_alloc1 _ _) fun _ h => h.elim
  have HF := Lib.hid hf0
  have HV := Lib.hid (h.of_fr hf0)
  clear h hf0
  go_enter Try.func11, Try.ntmps11
  go_wp2_with (first | (go_at_call 22; refine (Minor_void HV.out).mono ?_; rintro e w1 ⟨rfl, hf⟩; have H1 := Lib.hid hf; clear hf) | (go_at_call 25; refine only_any.mono ?_; rintro e w2 ⟨rfl, hf⟩; have hf2 := H1.out.trans hf fun _ h => h.elim; have H2 := Lib.hid hf2; obtain ⟨c0, c1, c2, c3, z0, z1, z2, z3, s0, s1, s2⟩ := cells4 hf2; clear hf hf2))
  obtain ⟨r0, r1, r2, r3⟩ := (cells4 H2.out).read (.int .i64 9)
  refine ⟨rfl, onlyV 9, ?_, rfl, (HF.out.trans H2.out fun _ h => h.elim).trans (fr_setCell w2 (w.heap.size + 1) 3 (.int .i64 9)) fun j hj => .inr (by omega)⟩
  simp [results, Try.results11, go_sem, r0, r1, r2, r3, onlyV]

set_option maxRecDepth 100000 in
set_option maxHeartbeats 2000000 in
theorem do_14 {hp : Option Addr} {kd a b c d : Int} {w : World} (h : Void hp w) (hk : kd.tmod 15 = 14) : Calls Try.prog 11 #[.pointer hp, .agg #[.int .u8 kd, .int .i64 a, .int .i64 b, .int .i64 c, .int .i64 d]] w fun e w' => e = .returned (onlyV 9) ∧ Fr (fun _ => False) w w' := by
  have hf0 : Fr (fun _ => False) w ((w.alloc (.cells #[.int .u8 kd, .int .i64 a, .int .i64 b, .int .i64 c, .int .i64 d] 33)).alloc (.cells #[.int .i64 0, .int .i64 0, .int .i64 0, .int .i64 0] 30)) := (fr_alloc1 _ _).trans (fr_alloc1 _ _) fun _ h => h.elim
  have HF := Lib.hid hf0
  have HV := Lib.hid (h.of_fr hf0)
  clear h hf0
  go_enter Try.func11, Try.ntmps11
  go_wp2_with (first | (go_at_call 23; refine (Whole_void HV.out).mono ?_; rintro e w1 ⟨rfl, hf⟩; have H1 := Lib.hid hf; clear hf) | (go_at_call 25; refine only_any.mono ?_; rintro e w2 ⟨rfl, hf⟩; have hf2 := H1.out.trans hf fun _ h => h.elim; have H2 := Lib.hid hf2; obtain ⟨c0, c1, c2, c3, z0, z1, z2, z3, s0, s1, s2⟩ := cells4 hf2; clear hf hf2))
  obtain ⟨r0, r1, r2, r3⟩ := (cells4 H2.out).read (.int .i64 9)
  refine ⟨rfl, onlyV 9, ?_, rfl, (HF.out.trans H2.out fun _ h => h.elim).trans (fr_setCell w2 (w.heap.size + 1) 3 (.int .i64 9)) fun j hj => .inr (by omega)⟩
  simp [results, Try.results11, go_sem, r0, r1, r2, r3, onlyV]

theorem do_void {hp : Option Addr} {kd a b c d : Int} {w : World} (h : Void hp w) (h1 : 0 ≤ kd) : Calls Try.prog 11 #[.pointer hp, .agg #[.int .u8 kd, .int .i64 a, .int .i64 b, .int .i64 c, .int .i64 d]] w fun e w' => e = .returned (onlyV 9) ∧ Fr (fun _ => False) w w' := by
  have e := Int.tmod_eq_emod_of_nonneg (b := 15) h1
  have hc : kd.tmod 15 = 0 ∨ kd.tmod 15 = 1 ∨ kd.tmod 15 = 2 ∨ kd.tmod 15 = 3 ∨ kd.tmod 15 = 4 ∨ kd.tmod 15 = 5 ∨ kd.tmod 15 = 6 ∨ kd.tmod 15 = 7 ∨ kd.tmod 15 = 8 ∨ kd.tmod 15 = 9 ∨ kd.tmod 15 = 10 ∨ kd.tmod 15 = 11 ∨ kd.tmod 15 = 12 ∨ kd.tmod 15 = 13 ∨ kd.tmod 15 = 14 := by omega
  rcases hc with hk | hk | hk | hk | hk | hk | hk | hk | hk | hk | hk | hk | hk | hk | hk
  · exact do_0 h hk
  · exact do_1 h hk
  · exact do_2 h hk
  · exact do_3 h hk
  · exact do_4 h hk
  · exact do_5 h hk
  · exact do_6 h hk
  · exact do_7 h hk
  · exact do_8 h hk
  · exact do_9 h hk
  · exact do_10 h hk
  · exact do_11 h hk
  · exact do_12 h hk
  · exact do_13 h hk
  · exact do_14 h hk

end Go.Proofs.Ythjokcjdphempaa
