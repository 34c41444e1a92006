/- The closures of the methods that work on slots and objects. -/
import Derived.Test.YthjokcjdphempaaSl
import Derived.StillTactics
set_option linter.unusedVariables false
namespace Go.Proofs.Ythjokcjdphempaa
open Go.RowKit Hp Go.Shelf

set_option maxRecDepth 100000 in
set_option maxHeartbeats 1000000 in
theorem load_no1 {hb hx ox kx rx : Nat} {i : Int} {w : World} {L : Lay} {s : HS} (hr : HRep w hb L s) (c1 : w.cell? ⟨hx, 0, none⟩ = some (.pointer (some ⟨hb, 0, none⟩))) (hsl : s.slots.length ≤ 1000000) (c_ox : w.cell? ⟨ox, 0, none⟩ = some (.int .i64 i)) (hk : inSlots s [i] = false) :
    Calls Try.prog 72 #[.pointer (some ⟨hx, 0, none⟩), .pointer (some ⟨ox, 0, none⟩), .pointer (some ⟨kx, 0, none⟩), .pointer (some ⟨rx, 0, none⟩)] w fun e w' => e = .panicked (trouble 1) ∧ (w.alloc (.cells #[.int .i64 i] 3)) = w' := by
  have HT := Lib.hid (there1_no hr i hsl hk)
  clear hr hk
  go_enter Try.func72, Try.ntmps72
  go_wp2_with (go_at_call 50; refine HT.out.mono ?_; rintro e w' ⟨rfl, rfl⟩)
  exact ⟨rfl, rfl, rfl⟩

set_option maxRecDepth 100000 in
set_option maxHeartbeats 1000000 in
theorem store_no1 {hb hx ox nx kx : Nat} {i : Int} {w : World} {L : Lay} {s : HS} (hr : HRep w hb L s) (c1 : w.cell? ⟨hx, 0, none⟩ = some (.pointer (some ⟨hb, 0, none⟩))) (hsl : s.slots.length ≤ 1000000) (c_ox : w.cell? ⟨ox, 0, none⟩ = some (.int .i64 i)) (hk : inSlots s [i] = false) :
    Calls Try.prog 68 #[.pointer (some ⟨hx, 0, none⟩), .pointer (some ⟨ox, 0, none⟩), .pointer (some ⟨nx, 0, none⟩), .pointer (some ⟨kx, 0, none⟩)] w fun e w' => e = .panicked (trouble 1) ∧ (w.alloc (.cells #[.int .i64 i] 3)) = w' := by
  have HT := Lib.hid (there1_no hr i hsl hk)
  clear hr hk
  go_enter Try.func68, Try.ntmps68
  go_wp2_with (go_at_call 50; refine HT.out.mono ?_; rintro e w' ⟨rfl, rfl⟩)
  exact ⟨rfl, rfl, rfl⟩

set_option maxRecDepth 100000 in
set_option maxHeartbeats 1000000 in
theorem set_no1 {hb hx ox fx kx : Nat} {i j : Int} {w : World} {L : Lay} {s : HS} (hr : HRep w hb L s) (c1 : w.cell? ⟨hx, 0, none⟩ = some (.pointer (some ⟨hb, 0, none⟩))) (hsl : s.slots.length ≤ 1000000) (c_ox : w.cell? ⟨ox, 0, none⟩ = some (.int .i64 i)) (c_fx : w.cell? ⟨fx, 0, none⟩ = some (.int .i64 j)) (hk : inSlots s [i, j] = false) :
    Calls Try.prog 67 #[.pointer (some ⟨hx, 0, none⟩), .pointer (some ⟨ox, 0, none⟩), .pointer (some ⟨fx, 0, none⟩), .pointer (some ⟨kx, 0, none⟩)] w fun e w' => e = .panicked (trouble 1) ∧ (w.alloc (.cells #[.int .i64 i, .int .i64 j] 3)) = w' := by
  have HT := Lib.hid (there2_no hr i j hsl hk)
  clear hr hk
  go_enter Try.func67, Try.ntmps67
  go_wp2_with (go_at_call 50; refine HT.out.mono ?_; rintro e w' ⟨rfl, rfl⟩)
  exact ⟨rfl, rfl, rfl⟩

set_option maxRecDepth 100000 in
set_option maxHeartbeats 1000000 in
theorem get_no1 {hb hx tx ox kx : Nat} {j i : Int} {w : World} {L : Lay} {s : HS} (hr : HRep w hb L s) (c1 : w.cell? ⟨hx, 0, none⟩ = some (.pointer (some ⟨hb, 0, none⟩))) (hsl : s.slots.length ≤ 1000000) (c_tx : w.cell? ⟨tx, 0, none⟩ = some (.int .i64 j)) (c_ox : w.cell? ⟨ox, 0, none⟩ = some (.int .i64 i)) (hk : inSlots s [j, i] = false) :
    Calls Try.prog 70 #[.pointer (some ⟨hx, 0, none⟩), .pointer (some ⟨tx, 0, none⟩), .pointer (some ⟨ox, 0, none⟩), .pointer (some ⟨kx, 0, none⟩)] w fun e w' => e = .panicked (trouble 1) ∧ (w.alloc (.cells #[.int .i64 j, .int .i64 i] 3)) = w' := by
  have HT := Lib.hid (there2_no hr j i hsl hk)
  clear hr hk
  go_enter Try.func70, Try.ntmps70
  go_wp2_with (go_at_call 50; refine HT.out.mono ?_; rintro e w' ⟨rfl, rfl⟩)
  exact ⟨rfl, rfl, rfl⟩

set_option maxRecDepth 100000 in
set_option maxHeartbeats 1000000 in
theorem alike_no1 {hb hx ax bx rx : Nat} {i j : Int} {w : World} {L : Lay} {s : HS} (hr : HRep w hb L s) (c1 : w.cell? ⟨hx, 0, none⟩ = some (.pointer (some ⟨hb, 0, none⟩))) (hsl : s.slots.length ≤ 1000000) (c_ax : w.cell? ⟨ax, 0, none⟩ = some (.int .i64 i)) (c_bx : w.cell? ⟨bx, 0, none⟩ = some (.int .i64 j)) (hk : inSlots s [i, j] = false) :
    Calls Try.prog 71 #[.pointer (some ⟨hx, 0, none⟩), .pointer (some ⟨ax, 0, none⟩), .pointer (some ⟨bx, 0, none⟩), .pointer (some ⟨rx, 0, none⟩)] w fun e w' => e = .panicked (trouble 1) ∧ (w.alloc (.cells #[.int .i64 i, .int .i64 j] 3)) = w' := by
  have HT := Lib.hid (there2_no hr i j hsl hk)
  clear hr hk
  go_enter Try.func71, Try.ntmps71
  go_wp2_with (go_at_call 50; refine HT.out.mono ?_; rintro e w' ⟨rfl, rfl⟩)
  exact ⟨rfl, rfl, rfl⟩

set_option maxRecDepth 100000 in
set_option maxHeartbeats 1000000 in
theorem empty_no1 {hb hx ox rx : Nat} {i : Int} {w : World} {L : Lay} {s : HS} (hr : HRep w hb L s) (c1 : w.cell? ⟨hx, 0, none⟩ = some (.pointer (some ⟨hb, 0, none⟩))) (hsl : s.slots.length ≤ 1000000) (c_ox : w.cell? ⟨ox, 0, none⟩ = some (.int .i64 i)) (hk : inSlots s [i] = false) :
    Calls Try.prog 75 #[.pointer (some ⟨hx, 0, none⟩), .pointer (some ⟨ox, 0, none⟩), .pointer (some ⟨rx, 0, none⟩)] w fun e w' => e = .panicked (trouble 1) ∧ (w.alloc (.cells #[.int .i64 i] 3)) = w' := by
  have HT := Lib.hid (there1_no hr i hsl hk)
  clear hr hk
  go_enter Try.func75, Try.ntmps75
  go_wp2_with (go_at_call 50; refine HT.out.mono ?_; rintro e w' ⟨rfl, rfl⟩)
  exact ⟨rfl, rfl, rfl⟩

set_option maxRecDepth 100000 in
set_option maxHeartbeats 1000000 in
theorem copy_no1 {hb hx tx fx : Nat} {i j : Int} {w : World} {L : Lay} {s : HS} (hr : HRep w hb L s) (c1 : w.cell? ⟨hx, 0, none⟩ = some (.pointer (some ⟨hb, 0, none⟩))) (hsl : s.slots.length ≤ 1000000) (c_tx : w.cell? ⟨tx, 0, none⟩ = some (.int .i64 i)) (c_fx : w.cell? ⟨fx, 0, none⟩ = some (.int .i64 j)) (hk : inSlots s [i, j] = false) :
    Calls Try.prog 73 #[.pointer (some ⟨hx, 0, none⟩), .pointer (some ⟨tx, 0, none⟩), .pointer (some ⟨fx, 0, none⟩)] w fun e w' => e = .panicked (trouble 1) ∧ (w.alloc (.cells #[.int .i64 i, .int .i64 j] 3)) = w' := by
  have HT := Lib.hid (there2_no hr i j hsl hk)
  clear hr hk
  go_enter Try.func73, Try.ntmps73
  go_wp2_with (go_at_call 50; refine HT.out.mono ?_; rintro e w' ⟨rfl, rfl⟩)
  exact ⟨rfl, rfl, rfl⟩

set_option maxRecDepth 100000 in
set_option maxHeartbeats 1000000 in
theorem shape_no1 {hb hx ox ux vx yx : Nat} {i : Int} {w : World} {L : Lay} {s : HS} (hr : HRep w hb L s) (c1 : w.cell? ⟨hx, 0, none⟩ = some (.pointer (some ⟨hb, 0, none⟩))) (hsl : s.slots.length ≤ 1000000) (c_ox : w.cell? ⟨ox, 0, none⟩ = some (.int .i64 i)) (hk : inSlots s [i] = false) :
    Calls Try.prog 54 #[.pointer (some ⟨hx, 0, none⟩), .pointer (some ⟨ox, 0, none⟩), .pointer (some ⟨ux, 0, none⟩), .pointer (some ⟨vx, 0, none⟩), .pointer (some ⟨yx, 0, none⟩)] w fun e w' => e = .panicked (trouble 1) ∧ (w.alloc (.cells #[.int .i64 i] 3)) = w' := by
  have HT := Lib.hid (there1_no hr i hsl hk)
  clear hr hk
  go_enter Try.func54, Try.ntmps54
  go_wp2_with (go_at_call 50; refine HT.out.mono ?_; rintro e w' ⟨rfl, rfl⟩)
  exact ⟨rfl, rfl, rfl⟩

set_option maxRecDepth 100000 in
set_option maxHeartbeats 1000000 in
theorem load_no5 {hb hx ox kx rx : Nat} {i : Nat} {w : World} {L : Lay} {s : HS} (hr : HRep w hb L s) (c1 : w.cell? ⟨hx, 0, none⟩ = some (.pointer (some ⟨hb, 0, none⟩))) (hsl : s.slots.length ≤ 1000000) (c_ox : w.cell? ⟨ox, 0, none⟩ = some (.int .i64 i)) {A : AHeap} {G : Areas} {φ : Nat → Int} (hi : InvG s G φ A) (hk : inSlots s [(i : Int)] = true) (h0 : A.slots[i]? = some 0) :
    Calls Try.prog 72 #[.pointer (some ⟨hx, 0, none⟩), .pointer (some ⟨ox, 0, none⟩), .pointer (some ⟨kx, 0, none⟩), .pointer (some ⟨rx, 0, none⟩)] w fun e w' => e = .panicked (trouble 5) ∧ (w.alloc (.cells #[.int .i64 i] 3)) = w' := by
  have HT := Lib.hid (there1 hr i hsl hk)
  have HO := Lib.hid (slot_zero (hr.of_fr (fr_alloc1 w (.cells #[.int .i64 i] 3)) (fun _ _ h => h)) hi h0)
  have d1 := alloc_cell c1 (.cells #[.int .i64 i] 3)
  have d_ox := alloc_cell c_ox (.cells #[.int .i64 i] 3)
  clear hr hk hi h0
  go_enter Try.func72, Try.ntmps72
  go_wp2_with (first | (go_at_call 50; refine HT.out.mono ?_; rintro e w' ⟨rfl, rfl⟩) | (go_at_call 55; refine HO.out.mono ?_; rintro e w' ⟨rfl, rfl⟩))
  exact ⟨rfl, rfl, rfl⟩

set_option maxRecDepth 100000 in
set_option maxHeartbeats 1000000 in
theorem store_no5 {hb hx ox nx kx : Nat} {i : Nat} {w : World} {L : Lay} {s : HS} (hr : HRep w hb L s) (c1 : w.cell? ⟨hx, 0, none⟩ = some (.pointer (some ⟨hb, 0, none⟩))) (hsl : s.slots.length ≤ 1000000) (c_ox : w.cell? ⟨ox, 0, none⟩ = some (.int .i64 i)) {A : AHeap} {G : Areas} {φ : Nat → Int} (hi : InvG s G φ A) (hk : inSlots s [(i : Int)] = true) (h0 : A.slots[i]? = some 0) :
    Calls Try.prog 68 #[.pointer (some ⟨hx, 0, none⟩), .pointer (some ⟨ox, 0, none⟩), .pointer (some ⟨nx, 0, none⟩), .pointer (some ⟨kx, 0, none⟩)] w fun e w' => e = .panicked (trouble 5) ∧ (w.alloc (.cells #[.int .i64 i] 3)) = w' := by
  have HT := Lib.hid (there1 hr i hsl hk)
  have HO := Lib.hid (slot_zero (hr.of_fr (fr_alloc1 w (.cells #[.int .i64 i] 3)) (fun _ _ h => h)) hi h0)
  have d1 := alloc_cell c1 (.cells #[.int .i64 i] 3)
  have d_ox := alloc_cell c_ox (.cells #[.int .i64 i] 3)
  clear hr hk hi h0
  go_enter Try.func68, Try.ntmps68
  go_wp2_with (first | (go_at_call 50; refine HT.out.mono ?_; rintro e w' ⟨rfl, rfl⟩) | (go_at_call 55; refine HO.out.mono ?_; rintro e w' ⟨rfl, rfl⟩))
  exact ⟨rfl, rfl, rfl⟩

set_option maxRecDepth 100000 in
set_option maxHeartbeats 1000000 in
theorem set_no5 {hb hx ox fx kx : Nat} {i j : Nat} {w : World} {L : Lay} {s : HS} (hr : HRep w hb L s) (c1 : w.cell? ⟨hx, 0, none⟩ = some (.pointer (some ⟨hb, 0, none⟩))) (hsl : s.slots.length ≤ 1000000) (c_ox : w.cell? ⟨ox, 0, none⟩ = some (.int .i64 i)) (c_fx : w.cell? ⟨fx, 0, none⟩ = some (.int .i64 j)) {A : AHeap} {G : Areas} {φ : Nat → Int} (hi : InvG s G φ A) (hk : inSlots s [(i : Int), (j : Int)] = true) (h0 : A.slots[i]? = some 0) :
    Calls Try.prog 67 #[.pointer (some ⟨hx, 0, none⟩), .pointer (some ⟨ox, 0, none⟩), .pointer (some ⟨fx, 0, none⟩), .pointer (some ⟨kx, 0, none⟩)] w fun e w' => e = .panicked (trouble 5) ∧ (w.alloc (.cells #[.int .i64 i, .int .i64 j] 3)) = w' := by
  have HT := Lib.hid (there2 hr i j hsl hk)
  have HO := Lib.hid (slot_zero (hr.of_fr (fr_alloc1 w (.cells #[.int .i64 i, .int .i64 j] 3)) (fun _ _ h => h)) hi h0)
  have d1 := alloc_cell c1 (.cells #[.int .i64 i, .int .i64 j] 3)
  have d_ox := alloc_cell c_ox (.cells #[.int .i64 i, .int .i64 j] 3)
  have d_fx := alloc_cell c_fx (.cells #[.int .i64 i, .int .i64 j] 3)
  clear hr hk hi h0
  go_enter Try.func67, Try.ntmps67
  go_wp2_with (first | (go_at_call 50; refine HT.out.mono ?_; rintro e w' ⟨rfl, rfl⟩) | (go_at_call 55; refine HO.out.mono ?_; rintro e w' ⟨rfl, rfl⟩))
  exact ⟨rfl, rfl, rfl⟩

set_option maxRecDepth 100000 in
set_option maxHeartbeats 1000000 in
theorem get_no5 {hb hx tx ox kx : Nat} {j i : Nat} {w : World} {L : Lay} {s : HS} (hr : HRep w hb L s) (c1 : w.cell? ⟨hx, 0, none⟩ = some (.pointer (some ⟨hb, 0, none⟩))) (hsl : s.slots.length ≤ 1000000) (c_tx : w.cell? ⟨tx, 0, none⟩ = some (.int .i64 j)) (c_ox : w.cell? ⟨ox, 0, none⟩ = some (.int .i64 i)) {A : AHeap} {G : Areas} {φ : Nat → Int} (hi : InvG s G φ A) (hk : inSlots s [(j : Int), (i : Int)] = true) (h0 : A.slots[i]? = some 0) :
    Calls Try.prog 70 #[.pointer (some ⟨hx, 0, none⟩), .pointer (some ⟨tx, 0, none⟩), .pointer (some ⟨ox, 0, none⟩), .pointer (some ⟨kx, 0, none⟩)] w fun e w' => e = .panicked (trouble 5) ∧ (w.alloc (.cells #[.int .i64 j, .int .i64 i] 3)) = w' := by
  have HT := Lib.hid (there2 hr j i hsl hk)
  have HO := Lib.hid (slot_zero (hr.of_fr (fr_alloc1 w (.cells #[.int .i64 j, .int .i64 i] 3)) (fun _ _ h => h)) hi h0)
  have d1 := alloc_cell c1 (.cells #[.int .i64 j, .int .i64 i] 3)
  have d_tx := alloc_cell c_tx (.cells #[.int .i64 j, .int .i64 i] 3)
  have d_ox := alloc_cell c_ox (.cells #[.int .i64 j, .int .i64 i] 3)
  clear hr hk hi h0
  go_enter Try.func70, Try.ntmps70
  go_wp2_with (first | (go_at_call 50; refine HT.out.mono ?_; rintro e w' ⟨rfl, rfl⟩) | (go_at_call 55; refine HO.out.mono ?_; rintro e w' ⟨rfl, rfl⟩))
  exact ⟨rfl, rfl, rfl⟩

set_option maxRecDepth 100000 in
set_option maxHeartbeats 1000000 in
theorem shape_no5 {hb hx ox ux vx yx : Nat} {i : Nat} {w : World} {L : Lay} {s : HS} (hr : HRep w hb L s) (c1 : w.cell? ⟨hx, 0, none⟩ = some (.pointer (some ⟨hb, 0, none⟩))) (hsl : s.slots.length ≤ 1000000) (c_ox : w.cell? ⟨ox, 0, none⟩ = some (.int .i64 i)) {A : AHeap} {G : Areas} {φ : Nat → Int} (hi : InvG s G φ A) (hk : inSlots s [(i : Int)] = true) (h0 : A.slots[i]? = some 0) :
    Calls Try.prog 54 #[.pointer (some ⟨hx, 0, none⟩), .pointer (some ⟨ox, 0, none⟩), .pointer (some ⟨ux, 0, none⟩), .pointer (some ⟨vx, 0, none⟩), .pointer (some ⟨yx, 0, none⟩)] w fun e w' => e = .panicked (trouble 5) ∧ (w.alloc (.cells #[.int .i64 i] 3)) = w' := by
  have HT := Lib.hid (there1 hr i hsl hk)
  have HO := Lib.hid (slot_zero (hr.of_fr (fr_alloc1 w (.cells #[.int .i64 i] 3)) (fun _ _ h => h)) hi h0)
  have d1 := alloc_cell c1 (.cells #[.int .i64 i] 3)
  have d_ox := alloc_cell c_ox (.cells #[.int .i64 i] 3)
  clear hr hk hi h0
  go_enter Try.func54, Try.ntmps54
  go_wp2_with (first | (go_at_call 50; refine HT.out.mono ?_; rintro e w' ⟨rfl, rfl⟩) | (go_at_call 55; refine HO.out.mono ?_; rintro e w' ⟨rfl, rfl⟩))
  exact ⟨rfl, rfl, rfl⟩

/-- A region that draws its order: operations that read, then a tail in order. -/
theorem region_tail {id : Nat} {Q : Exit → Act → World → Prop} {a : Act} {w : World} {l : List Oper} (n : Nat) (hm : Try.prog.follows .mixedOrders = true) (hB : Region.lexTailB .any l.toArray n = true)
    (h : wpStill Try.prog l.toArray w.drew (fun a' => wpList Try.prog l.toArray Q (l.drop n) a' w.drew) (l.take n) a) : (Code.region id l.toArray true).wp Try.prog Q a w := wp_region_still_tail n hm hB h

theorem ObjIn.hdr {hb : Nat} {L : Lay} {s : HS} {A : AHeap} {φ : Nat → Int} {G : Areas} {w : World} {i m b p : Nat} (h : ObjIn hb L s A φ G w i m b p) :
    ∃ x, x = hdr (A.obj m).tag (A.obj m).refs.length (A.obj m).raws.length ∧ 0 ≤ x ∧ x ≤ 4611686018427387904 ∧ refsN x = (A.obj m).refs.length ∧ rawsN x = (A.obj m).raws.length ∧ tagN x = (A.obj m).tag := by
  obtain ⟨f1, f2, f3⟩ := h.fits
  refine ⟨_, rfl, hdr_nonneg _ _ _, by unfold Hp.hdr; omega, refsN_hdr f1 (by omega), rawsN_hdr f1 (by omega), ?_⟩
  unfold tagN Hp.hdr; omega

theorem Left.drewN' {hb : Nat} {L L' : Lay} {w w' : World} (h : Left hb L L' w w') (n : Nat) : Left hb L L' w (w'.drewN n) := ⟨⟨h.fr.os, h.fr.tape, h.fr.output, h.fr.size, h.fr.block⟩, h.foot⟩

theorem fail_quiet (x : Int) (w : World) : Calls Try.prog 51 #[.bool true, .int .i64 x] w fun e w' => e = .returned (.tuple #[]) ∧ w = w' := fail_yes x w

set_option maxRecDepth 100000 in
set_option maxHeartbeats 1000000 in
theorem get_yes {hb hx tx ox kx : Nat} {j i m k n : Nat} {w : World} {L : Lay} {s : HS} (hr : HRep w hb L s) (c1 : w.cell? ⟨hx, 0, none⟩ = some (.pointer (some ⟨hb, 0, none⟩))) (hsl : s.slots.length ≤ 1000000) (c_tx : w.cell? ⟨tx, 0, none⟩ = some (.int .i64 j)) (c_ox : w.cell? ⟨ox, 0, none⟩ = some (.int .i64 i)) (c_kx : w.cell? ⟨kx, 0, none⟩ = some (.int .i64 k)) {A : AHeap} {G : Areas} {φ : Nat → Int} (hi : InvG s G φ A) (hz : Sized s A) (hj : j < s.slots.length)
    (h0 : A.slots[i]? = some (m + 1)) (hk : (A.obj m).refs[k]? = some n) :
    Calls Try.prog 70 #[.pointer (some ⟨hx, 0, none⟩), .pointer (some ⟨tx, 0, none⟩), .pointer (some ⟨ox, 0, none⟩), .pointer (some ⟨kx, 0, none⟩)] w fun e w' => e = .returned (.tuple #[]) ∧ ∃ x, RefOk G φ s.now x n ∧ HRep w' hb L { s with slots := s.slots.set j x } ∧ Left hb L L w w' := by
  have hlt : i < s.slots.length := by rw [hi.rep.slen]; exact (List.getElem?_eq_some_iff.1 h0).1
  have HT := Lib.hid (there2 hr j i hsl (in_slots2.2 ⟨⟨by omega, by omega⟩, by omega, by omega⟩))
  have hrA := hr.of_fr (fr_alloc1 w (.cells #[.int .i64 j, .int .i64 i] 3)) (fun _ _ h => h)
  obtain ⟨b, p, ho⟩ := slot_some hrA hi hz h0
  obtain ⟨x, hx1, x2, x3, x4, x5, x6⟩ := ho.hdr
  obtain ⟨y, y1, y2⟩ := ho.refs k n hk
  have hkl := (List.getElem?_eq_some_iff.1 hk).1
  have e0 := ho.head
  rw [← hx1] at e0
  obtain ⟨sb, off, cap, d1, d2, d3, d4, d5⟩ := hrA.slot hj
  have hput := hrA.put (i := 3) (by omega) d4 (p := j) hj y
  have hleft : Left hb L L w ((w.alloc (.cells #[.int .i64 j, .int .i64 i] 3)).setCell ⟨sb, off + j, none⟩ (.int .i64 y)) :=
    Left.trans ⟨(fr_alloc1 w (.cells #[.int .i64 j, .int .i64 i] 3)).mono fun _ h => h.elim, fun _ h => .inl h⟩ (left_setCell _ hb L (ownBlock_foot (i := 3) (by omega) (by rw [d4]; rfl)) (off + j) _)
  have HP := Lib.hid (And.intro y2 (And.intro hput hleft))
  have HO := Lib.hid ho.call
  have H46 := Lib.hid (fun W => refsOf_any x W x2 x3)
  have f2 := ho.fits.2.1
  obtain ⟨sz, hsz⟩ : ∃ sz, sz = (A.obj m).size := ⟨_, rfl⟩
  have hksz : 1 + k < sz := by rw [hsz]; unfold AObj.size; omega
  rw [x4] at H46
  rw [← hsz] at HO
  obtain ⟨nr, hnr⟩ : ∃ nr, nr = (A.obj m).refs.length := ⟨_, rfl⟩
  rw [← hnr] at hkl H46 f2
  have e1 := alloc_cell c1 (.cells #[.int .i64 j, .int .i64 i] 3)
  have e2 := alloc_cell c_tx (.cells #[.int .i64 j, .int .i64 i] 3)
  have e3 := alloc_cell c_ox (.cells #[.int .i64 j, .int .i64 i] 3)
  have e4 := alloc_cell c_kx (.cells #[.int .i64 j, .int .i64 i] 3)
  obtain ⟨sl, hsl'⟩ : ∃ sl, sl = s.slots.length := ⟨_, rfl⟩
  rw [← hsl'] at d1 d2 hj hlt hsl
  clear hr hi hz ho hput hleft y2 hnr hsl' hsz hx1 x4 x5 x6 hrA h0 hk
  go_enter Try.func70, Try.ntmps70
  go_wp2_with (first | (go_at_call 50; refine HT.out.mono ?_; rintro e w' ⟨rfl, rfl⟩) | (go_at_call 55; refine (HO.out _ rfl).mono ?_; rintro e w' ⟨rfl, rfl⟩))
  go_quiet (first | (go_at_call 46; exact quiet_same (H46.out _)) | (go_at_call 51; exact quiet_same (fail_yes _ _)))
  go_wp2
  refine wp_region_z (fun W => W.cell? ⟨hx, 0, none⟩ = some (.pointer (some ⟨hb, 0, none⟩)) ∧ W.cell? ⟨tx, 0, none⟩ = some (.int .i64 j) ∧ W.cell? ⟨kx, 0, none⟩ = some (.int .i64 k) ∧ W.cell? ⟨hb, 12, none⟩ = some (.slice (some ⟨sb, off, none⟩) sl cap) ∧ W.cell? ⟨b, p + (1 + k), none⟩ = some (.int .i64 y)) 11 (by kernel_rfl) ?_
  have hS : ((w.alloc (.cells #[.int .i64 j, .int .i64 i] 3)).drewN nq).drew.cell? ⟨hx, 0, none⟩ = some (.pointer (some ⟨hb, 0, none⟩)) ∧ ((w.alloc (.cells #[.int .i64 j, .int .i64 i] 3)).drewN nq).drew.cell? ⟨tx, 0, none⟩ = some (.int .i64 j) ∧ ((w.alloc (.cells #[.int .i64 j, .int .i64 i] 3)).drewN nq).drew.cell? ⟨kx, 0, none⟩ = some (.int .i64 k) ∧ ((w.alloc (.cells #[.int .i64 j, .int .i64 i] 3)).drewN nq).drew.cell? ⟨hb, 12, none⟩ = some (.slice (some ⟨sb, off, none⟩) sl cap) ∧ ((w.alloc (.cells #[.int .i64 j, .int .i64 i] 3)).drewN nq).drew.cell? ⟨b, p + (1 + k), none⟩ = some (.int .i64 y) := ⟨e1, e2, e4, d1, y1⟩
  refine anyZ_marks (fuel := 1) (a' := ?a1) [true, true, true, true, true, true, true, true, true, true, true, false] rfl hS (fun _ _ d _ _ h => by cases d <;> exact h) (by kernel_rfl) (fun W hW => ?_) ?_
  rotate_left
  · obtain ⟨s0, s1, s2, s3, s4⟩ := hW
    simp only [pick]
    repeat (go_big_quiet_step (fail))
    refine wpQuiet_nil ?_
    show _ = _
    with_reducible rfl
  refine anyZ_step 11 rfl (by kernel_rfl) rfl (fun K hK => ?_)
  go_simp
  refine hK _ _ (.inl (by kernel_rfl)) ?_
  clear hK K hS
  refine anyZ_done (by kernel_rfl) ?_ _
  go_end0
  exact ⟨rfl, y, HP.out.1, HP.out.2.1.of_heap rfl, HP.out.2.2.drewN' _ |>.drew⟩

set_option maxRecDepth 100000 in
set_option maxHeartbeats 1000000 in
theorem set_yes {hb hx ox fx kx : Nat} {i j m k n : Nat} {w : World} {L : Lay} {s : HS} (hr : HRep w hb L s) (c1 : w.cell? ⟨hx, 0, none⟩ = some (.pointer (some ⟨hb, 0, none⟩))) (hsl : s.slots.length ≤ 1000000) (c_ox : w.cell? ⟨ox, 0, none⟩ = some (.int .i64 i)) (c_fx : w.cell? ⟨fx, 0, none⟩ = some (.int .i64 j)) (c_kx : w.cell? ⟨kx, 0, none⟩ = some (.int .i64 k)) {A : AHeap} {G : Areas} {φ : Nat → Int} (hi : InvG s G φ A) (hz : Sized s A) (hj : A.slots[j]? = some n)
    (h0 : A.slots[i]? = some (m + 1)) (hk : k < (A.obj m).refs.length) :
    Calls Try.prog 67 #[.pointer (some ⟨hx, 0, none⟩), .pointer (some ⟨ox, 0, none⟩), .pointer (some ⟨fx, 0, none⟩), .pointer (some ⟨kx, 0, none⟩)] w fun e w' => e = .returned (.tuple #[]) ∧ ∃ y, RefOk G φ s.now y n ∧ HRep w' hb L (fieldSet s (φ m) k y) ∧ Left hb L L w w' := by
  have hjl : j < s.slots.length := by rw [hi.rep.slen]; exact (List.getElem?_eq_some_iff.1 hj).1
  have hlt : i < s.slots.length := by rw [hi.rep.slen]; exact (List.getElem?_eq_some_iff.1 h0).1
  have HT := Lib.hid (there2 hr i j hsl (in_slots2.2 ⟨⟨by omega, by omega⟩, by omega, by omega⟩))
  have hrA := hr.of_fr (fr_alloc1 w (.cells #[.int .i64 i, .int .i64 j] 3)) (fun _ _ h => h)
  obtain ⟨b, p, ho⟩ := slot_some hrA hi hz h0
  obtain ⟨x, hx1, x2, x3, x4, x5, x6⟩ := ho.hdr
  have e0 := ho.head
  rw [← hx1] at e0
  have HO := Lib.hid ho.call
  have H46 := Lib.hid (fun W => refsOf_any x W x2 x3)
  have H56 := Lib.hid (fun W => rawsOf_any x W x2 x3)
  have H47 := Lib.hid (fun W => tagOf_any x W x2 x3)
  have f1 := ho.fits.1
  have f2 := ho.fits.2.1
  have f3 := ho.fits.2.2
  obtain ⟨sz, hsz⟩ : ∃ sz, sz = (A.obj m).size := ⟨_, rfl⟩
  have hsz0 : sz = 1 + (A.obj m).refs.length + (A.obj m).raws.length := by rw [hsz]; rfl
  rw [x4] at H46
  rw [x5] at H56
  rw [x6] at H47
  rw [← hsz] at HO
  have e1 := alloc_cell c1 (.cells #[.int .i64 i, .int .i64 j] 3)
  have e_ox := alloc_cell c_ox (.cells #[.int .i64 i, .int .i64 j] 3)
  have e_fx := alloc_cell c_fx (.cells #[.int .i64 i, .int .i64 j] 3)
  have e_kx := alloc_cell c_kx (.cells #[.int .i64 i, .int .i64 j] 3)
  obtain ⟨sb, off, cap, d1, d2, d3, d4, d5⟩ := hrA.slot hjl
  have hyx : s.slots[j]? = some (s.slots.getD j 0) := by rw [List.getD_eq_getElem?_getD, List.getElem?_eq_getElem hjl]; rfl
  have y2 := (hi.rep.slot j _ n hyx hj).1
  obtain ⟨y, hy⟩ : ∃ y, y = s.slots.getD j 0 := ⟨_, rfl⟩
  rw [← hy] at d3 y2
  obtain ⟨off2, n2, cap2, L2, p2⟩ := ho.own
  have harea := ho.area
  have hpl : pOf (φ m) + (k + 1) < (s.sl (aOf (φ m))).length := by rw [sl_ar _ harea]; have := ho.len; rw [← hsz] at this; omega
  have hput := hrA.put (i := aOf (φ m)) (by omega) L2 (p := pOf (φ m) + (k + 1)) hpl y
  rw [sl_ar _ harea, setSl_ar _ _ harea, show off2 + (pOf (φ m) + (k + 1)) = p + (1 + k) by omega] at hput
  have hleft : Left hb L L w (((w.alloc (.cells #[.int .i64 i, .int .i64 j] 3))).setCell ⟨b, p + (1 + k), none⟩ (.int .i64 y)) :=
    Left.trans ⟨(fr_alloc1 w (.cells #[.int .i64 i, .int .i64 j] 3)).mono fun _ h => h.elim, fun _ h => .inl h⟩ (left_setCell _ hb L (ownBlock_foot (i := aOf (φ m)) (by omega) (by rw [L2]; rfl)) (p + (1 + k)) _)
  have HP := Lib.hid (And.intro y2 (And.intro hput hleft))
  have g3 := ho.froz (1 + k)
  obtain ⟨n1, hn1⟩ : ∃ n1, (A.obj m).refs[k]? = some n1 := ⟨_, List.getElem?_eq_getElem hk⟩
  obtain ⟨z, g2, _⟩ := ho.refs k n1 hn1
  have hksz : 1 + k < sz := by omega
  obtain ⟨nr, hnr⟩ : ∃ nr, nr = (A.obj m).refs.length := ⟨_, rfl⟩
  rw [← hnr] at hk H46 f2
  obtain ⟨sl, hsl'⟩ : ∃ sl, sl = s.slots.length := ⟨_, rfl⟩
  rw [← hsl'] at d1 d2 hjl hlt hsl
  clear hr hi hz ho hput hleft y2 hnr hsl' hsz hsz0 hx1 x4 x5 x6 hrA h0 hj hy hyx hpl L2 p2 hn1 f1 f3
  go_enter Try.func67, Try.ntmps67
  go_wp2_with (first | (go_at_call 50; refine HT.out.mono ?_; rintro e w' ⟨rfl, rfl⟩) | (go_at_call 55; refine (HO.out _ rfl).mono ?_; rintro e w' ⟨rfl, rfl⟩))
  go_quiet (first | (go_at_call 46; exact quiet_same (H46.out _)) | (go_at_call 51; exact quiet_same (fail_yes _ _)))
  go_wp2
  refine wp_region_z (fun W => W.cell? ⟨hx, 0, none⟩ = some (.pointer (some ⟨hb, 0, none⟩)) ∧ W.cell? ⟨fx, 0, none⟩ = some (.int .i64 j) ∧ W.cell? ⟨kx, 0, none⟩ = some (.int .i64 k) ∧ W.cell? ⟨hb, 12, none⟩ = some (.slice (some ⟨sb, off, none⟩) sl cap) ∧ W.cell? ⟨sb, off + j, none⟩ = some (.int .i64 y)) 11 (by kernel_rfl) ?_
  have hS : ((w.alloc (.cells #[.int .i64 i, .int .i64 j] 3)).drewN nq).drew.cell? ⟨hx, 0, none⟩ = some (.pointer (some ⟨hb, 0, none⟩)) ∧ ((w.alloc (.cells #[.int .i64 i, .int .i64 j] 3)).drewN nq).drew.cell? ⟨fx, 0, none⟩ = some (.int .i64 j) ∧ ((w.alloc (.cells #[.int .i64 i, .int .i64 j] 3)).drewN nq).drew.cell? ⟨kx, 0, none⟩ = some (.int .i64 k) ∧ ((w.alloc (.cells #[.int .i64 i, .int .i64 j] 3)).drewN nq).drew.cell? ⟨hb, 12, none⟩ = some (.slice (some ⟨sb, off, none⟩) sl cap) ∧ ((w.alloc (.cells #[.int .i64 i, .int .i64 j] 3)).drewN nq).drew.cell? ⟨sb, off + j, none⟩ = some (.int .i64 y) := ⟨e1, e_fx, e_kx, d1, d3⟩
  refine anyZ_marks (fuel := 1) (a' := ?a1) [true, true, true, true, true, true, true, true, true, true, true, false] rfl hS (fun _ _ d _ _ h => by cases d <;> exact h) (by kernel_rfl) (fun W hW => ?_) ?_
  rotate_left
  · obtain ⟨s0, s1, s2, s3, s4⟩ := hW
    simp only [pick]
    repeat (go_big_quiet_step (fail))
    refine wpQuiet_nil ?_
    show _ = _
    with_reducible rfl
  refine anyZ_step 11 rfl (by kernel_rfl) rfl (fun K hK => ?_)
  go_simp
  refine hK _ _ (.inl (by kernel_rfl)) ?_
  clear hK K hS
  refine anyZ_done (by kernel_rfl) ?_ _
  go_end0
  exact ⟨rfl, y, HP.out.1, HP.out.2.1.of_heap rfl, HP.out.2.2.drewN' _ |>.drew⟩

set_option maxRecDepth 100000 in
set_option maxHeartbeats 1000000 in
theorem store_yes {hb hx ox nx kx : Nat} {i m k : Nat} {v : Int} {w : World} {L : Lay} {s : HS} (hr : HRep w hb L s) (c1 : w.cell? ⟨hx, 0, none⟩ = some (.pointer (some ⟨hb, 0, none⟩))) (hsl : s.slots.length ≤ 1000000) (c_ox : w.cell? ⟨ox, 0, none⟩ = some (.int .i64 i)) (c_nx : w.cell? ⟨nx, 0, none⟩ = some (.int .i64 v)) (c_kx : w.cell? ⟨kx, 0, none⟩ = some (.int .i64 k)) {A : AHeap} {G : Areas} {φ : Nat → Int} (hi : InvG s G φ A) (hz : Sized s A)
    (h0 : A.slots[i]? = some (m + 1)) (hk : k < (A.obj m).raws.length) :
    Calls Try.prog 68 #[.pointer (some ⟨hx, 0, none⟩), .pointer (some ⟨ox, 0, none⟩), .pointer (some ⟨nx, 0, none⟩), .pointer (some ⟨kx, 0, none⟩)] w fun e w' => e = .returned (.tuple #[]) ∧ HRep w' hb L (s.setAr (aOf (φ m)) ((s.ar (aOf (φ m))).set (pOf (φ m) + (1 + (A.obj m).refs.length + k)) v)) ∧ Left hb L L w w' := by
  have hlt : i < s.slots.length := by rw [hi.rep.slen]; exact (List.getElem?_eq_some_iff.1 h0).1
  have HT := Lib.hid (there1 hr i hsl (in_slots1.2 ⟨by omega, by omega⟩))
  have hrA := hr.of_fr (fr_alloc1 w (.cells #[.int .i64 i] 3)) (fun _ _ h => h)
  obtain ⟨b, p, ho⟩ := slot_some hrA hi hz h0
  obtain ⟨x, hx1, x2, x3, x4, x5, x6⟩ := ho.hdr
  have e0 := ho.head
  rw [← hx1] at e0
  have HO := Lib.hid ho.call
  have H46 := Lib.hid (fun W => refsOf_any x W x2 x3)
  have H56 := Lib.hid (fun W => rawsOf_any x W x2 x3)
  have H47 := Lib.hid (fun W => tagOf_any x W x2 x3)
  have f1 := ho.fits.1
  have f2 := ho.fits.2.1
  have f3 := ho.fits.2.2
  obtain ⟨sz, hsz⟩ : ∃ sz, sz = (A.obj m).size := ⟨_, rfl⟩
  have hsz0 : sz = 1 + (A.obj m).refs.length + (A.obj m).raws.length := by rw [hsz]; rfl
  rw [x4] at H46
  rw [x5] at H56
  rw [x6] at H47
  rw [← hsz] at HO
  have e1 := alloc_cell c1 (.cells #[.int .i64 i] 3)
  have e_ox := alloc_cell c_ox (.cells #[.int .i64 i] 3)
  have e_nx := alloc_cell c_nx (.cells #[.int .i64 i] 3)
  have e_kx := alloc_cell c_kx (.cells #[.int .i64 i] 3)
  obtain ⟨off2, n2, cap2, L2, p2⟩ := ho.own
  have harea := ho.area
  have hpl : pOf (φ m) + (1 + (A.obj m).refs.length + k) < (s.sl (aOf (φ m))).length := by rw [sl_ar _ harea]; have := ho.len; rw [← hsz] at this; omega
  have hput := hrA.put (i := aOf (φ m)) (by omega) L2 (p := pOf (φ m) + (1 + (A.obj m).refs.length + k)) hpl v
  rw [sl_ar _ harea, setSl_ar _ _ harea, show off2 + (pOf (φ m) + (1 + (A.obj m).refs.length + k)) = p + (1 + (A.obj m).refs.length + k) by omega] at hput
  have hleft : Left hb L L w (((w.alloc (.cells #[.int .i64 i] 3))).setCell ⟨b, p + (1 + (A.obj m).refs.length + k), none⟩ (.int .i64 v)) :=
    Left.trans ⟨(fr_alloc1 w (.cells #[.int .i64 i] 3)).mono fun _ h => h.elim, fun _ h => .inl h⟩ (left_setCell _ hb L (ownBlock_foot (i := aOf (φ m)) (by omega) (by rw [L2]; rfl)) (p + (1 + (A.obj m).refs.length + k)) _)
  have HP := Lib.hid (And.intro hput hleft)
  have g2 := ho.raws k _ (List.getElem?_eq_getElem hk)
  have g3 := ho.froz (1 + (A.obj m).refs.length + k)
  obtain ⟨z, hz'⟩ : ∃ z, z = (A.obj m).raws[k] := ⟨_, rfl⟩
  rw [← hz'] at g2
  clear hz'
  have hksz : 1 + (A.obj m).refs.length + k < sz := by omega
  have hszp : 0 < sz := by omega
  have H69 := Lib.hid (fun W (hc : W.cell? ⟨b, p, none⟩ = some (.int .i64 x)) => raw_yes (w := W) (sz := sz) (cap := sz) (k := k) hc hszp (Nat.le_refl _) x2 x3 (by omega) (by rw [x5]; omega))
  rw [x4] at H69
  obtain ⟨nr, hnr⟩ : ∃ nr, nr = (A.obj m).refs.length := ⟨_, rfl⟩
  rw [← hnr] at HP H69 H46 f2 g2 g3 hksz
  have hidx : (1 : Int) + (nr : Int) + (k : Int) = ((1 + nr + k : Nat) : Int) := by omega
  obtain ⟨q, hq⟩ : ∃ q, q = 1 + nr + k := ⟨_, rfl⟩
  rw [← hq] at HP g2 g3 hksz hidx
  simp only [hidx] at H69
  have HE := Lib.hid (show 1 + (A.obj m).refs.length + k = q by omega)
  clear hr hi hz ho hput hleft hnr hsz hsz0 hx1 x4 x5 x6 hrA h0 hpl L2 p2 f1 f3 hq hidx hk
  go_enter Try.func68, Try.ntmps68
  go_wp2_with (first | (go_at_call 50; refine HT.out.mono ?_; rintro e w' ⟨rfl, rfl⟩) | (go_at_call 55; refine (HO.out _ rfl).mono ?_; rintro e w' ⟨rfl, rfl⟩))
  refine wp_region_z (fun W => W.cell? ⟨hx, 0, none⟩ = some (.pointer (some ⟨hb, 0, none⟩)) ∧ W.cell? ⟨nx, 0, none⟩ = some (.int .i64 v) ∧ W.cell? ⟨kx, 0, none⟩ = some (.int .i64 k) ∧ W.cell? ⟨b, p, none⟩ = some (.int .i64 x)) 6 (by kernel_rfl) ?_
  have hS : ((w.alloc (.cells #[.int .i64 i] 3))).drew.cell? ⟨hx, 0, none⟩ = some (.pointer (some ⟨hb, 0, none⟩)) ∧ ((w.alloc (.cells #[.int .i64 i] 3))).drew.cell? ⟨nx, 0, none⟩ = some (.int .i64 v) ∧ ((w.alloc (.cells #[.int .i64 i] 3))).drew.cell? ⟨kx, 0, none⟩ = some (.int .i64 k) ∧ ((w.alloc (.cells #[.int .i64 i] 3))).drew.cell? ⟨b, p, none⟩ = some (.int .i64 x) := ⟨e1, e_nx, e_kx, e0⟩
  refine anyZ_marks (fuel := 3) (a' := ?a1) [true, true, true, false, true, false, false] rfl hS (fun _ _ d _ _ h => by cases d <;> exact h) (by kernel_rfl) (fun W hW => ?_) ?_
  rotate_left
  · obtain ⟨s0, s1, s2, s3⟩ := hW
    simp only [pick]
    repeat (go_big_quiet_step (fail))
    refine wpQuiet_nil ?_
    show _ = _
    with_reducible rfl
  refine anyZ_step 3 rfl (by kernel_rfl) rfl (fun K hK => ?_)
  go_simp
  go_at_call 69
  refine (H69.out _ hS.2.2.2).mono ?_
  rintro e w' ⟨rfl, rfl⟩
  refine hK _ _ (.inr hS) ?_
  clear hK K
  refine anyZ_step 5 rfl (by kernel_rfl) rfl (fun K hK => ?_)
  go_simp
  refine hK _ _ (.inr hS) ?_
  clear hK K
  refine anyZ_step 6 rfl (by kernel_rfl) rfl (fun K hK => ?_)
  go_simp
  refine hK _ _ (.inl (by kernel_rfl)) ?_
  clear hK K hS
  refine anyZ_done (by kernel_rfl) ?_ _
  go_end0
  rw [HE.out]
  exact ⟨rfl, HP.out.1.of_heap rfl, HP.out.2.drew⟩

set_option maxRecDepth 100000 in
set_option maxHeartbeats 1000000 in
theorem load_yes {hb hx ox kx rx : Nat} {r0 : Value} {rt : TypeId} {i m k : Nat} {v : Int} {w : World} {L : Lay} {s : HS} (hr : HRep w hb L s) (c1 : w.cell? ⟨hx, 0, none⟩ = some (.pointer (some ⟨hb, 0, none⟩))) (hsl : s.slots.length ≤ 1000000) (c_ox : w.cell? ⟨ox, 0, none⟩ = some (.int .i64 i)) (c_kx : w.cell? ⟨kx, 0, none⟩ = some (.int .i64 k)) {A : AHeap} {G : Areas} {φ : Nat → Int} (hi : InvG s G φ A) (hz : Sized s A)
    (h0 : A.slots[i]? = some (m + 1)) (hk : (A.obj m).raws[k]? = some v) (hrx : w.heap[rx]? = some (.cells #[r0] rt (0, 0))) :
    Calls Try.prog 72 #[.pointer (some ⟨hx, 0, none⟩), .pointer (some ⟨ox, 0, none⟩), .pointer (some ⟨kx, 0, none⟩), .pointer (some ⟨rx, 0, none⟩)] w fun e w' => e = .returned (.tuple #[]) ∧ Eqw (((w.alloc (.cells #[.int .i64 i] 3))).setCell ⟨rx, 0, none⟩ (.int .i64 v)) w' := by
  have hlt : i < s.slots.length := by rw [hi.rep.slen]; exact (List.getElem?_eq_some_iff.1 h0).1
  have HT := Lib.hid (there1 hr i hsl (in_slots1.2 ⟨by omega, by omega⟩))
  have hrA := hr.of_fr (fr_alloc1 w (.cells #[.int .i64 i] 3)) (fun _ _ h => h)
  obtain ⟨b, p, ho⟩ := slot_some hrA hi hz h0
  obtain ⟨x, hx1, x2, x3, x4, x5, x6⟩ := ho.hdr
  have e0 := ho.head
  rw [← hx1] at e0
  have HO := Lib.hid ho.call
  have H46 := Lib.hid (fun W => refsOf_any x W x2 x3)
  have H56 := Lib.hid (fun W => rawsOf_any x W x2 x3)
  have H47 := Lib.hid (fun W => tagOf_any x W x2 x3)
  have f1 := ho.fits.1
  have f2 := ho.fits.2.1
  have f3 := ho.fits.2.2
  obtain ⟨sz, hsz⟩ : ∃ sz, sz = (A.obj m).size := ⟨_, rfl⟩
  have hsz0 : sz = 1 + (A.obj m).refs.length + (A.obj m).raws.length := by rw [hsz]; rfl
  rw [x4] at H46
  rw [x5] at H56
  rw [x6] at H47
  rw [← hsz] at HO
  have e1 := alloc_cell c1 (.cells #[.int .i64 i] 3)
  have e_ox := alloc_cell c_ox (.cells #[.int .i64 i] 3)
  have e_kx := alloc_cell c_kx (.cells #[.int .i64 i] 3)
  have g2 := ho.raws k _ hk
  have hkl := (List.getElem?_eq_some_iff.1 hk).1
  have hksz : 1 + (A.obj m).refs.length + k < sz := by omega
  have hszp : 0 < sz := by omega
  have H69 := Lib.hid (fun W (hc : W.cell? ⟨b, p, none⟩ = some (.int .i64 x)) => raw_yes (w := W) (sz := sz) (cap := sz) (k := k) hc hszp (Nat.le_refl _) x2 x3 (by omega) (by rw [x5]; omega))
  rw [x4] at H69
  obtain ⟨nr, hnr⟩ : ∃ nr, nr = (A.obj m).refs.length := ⟨_, rfl⟩
  rw [← hnr] at H69 H46 f2 g2 hksz
  have hidx : (1 : Int) + (nr : Int) + (k : Int) = ((1 + nr + k : Nat) : Int) := by omega
  obtain ⟨q, hq⟩ : ∃ q, q = 1 + nr + k := ⟨_, rfl⟩
  rw [← hq] at g2 hksz hidx
  simp only [hidx] at H69
  have r1 := alloc_cell (cell_of_box hrx).1 (.cells #[.int .i64 i] 3)
  have r2 := alloc_frozen (cell_of_box hrx).1 (cell_of_box hrx).2 (.cells #[.int .i64 i] 3)
  clear hr hi hz ho hnr hsz hsz0 hx1 x4 x5 x6 hrA h0 f1 f3 hq hidx hk hkl hrx
  go_enter Try.func72, Try.ntmps72
  go_wp2_with (first | (go_at_call 50; refine HT.out.mono ?_; rintro e w' ⟨rfl, rfl⟩) | (go_at_call 55; refine (HO.out _ rfl).mono ?_; rintro e w' ⟨rfl, rfl⟩) | (go_at_call 69; refine (H69.out _ e0).mono ?_; rintro e w' ⟨rfl, rfl⟩))
  go_end0
  exact ⟨rfl, rfl, rfl, rfl, rfl⟩

set_option maxRecDepth 100000 in
set_option maxHeartbeats 1000000 in
theorem alike_yes {hb hx ax bx rx : Nat} {r0 : Value} {rt : TypeId} {i j n n' : Nat} {w : World} {L : Lay} {s : HS} (hr : HRep w hb L s) (c1 : w.cell? ⟨hx, 0, none⟩ = some (.pointer (some ⟨hb, 0, none⟩))) (hsl : s.slots.length ≤ 1000000) (c_ax : w.cell? ⟨ax, 0, none⟩ = some (.int .i64 i)) (c_bx : w.cell? ⟨bx, 0, none⟩ = some (.int .i64 j)) {A : AHeap} {G : Areas} {φ : Nat → Int} (hi : InvG s G φ A) (hz : Sized s A)
    (h0 : A.slots[i]? = some n) (h1 : A.slots[j]? = some n') (hrx : w.heap[rx]? = some (.cells #[r0] rt (0, 0))) :
    Calls Try.prog 71 #[.pointer (some ⟨hx, 0, none⟩), .pointer (some ⟨ax, 0, none⟩), .pointer (some ⟨bx, 0, none⟩), .pointer (some ⟨rx, 0, none⟩)] w fun e w' => e = .returned (.tuple #[]) ∧ Eqw (((w.alloc (.cells #[.int .i64 i, .int .i64 j] 3))).setCell ⟨rx, 0, none⟩ (.bool (decide (n = n')))) w' := by
  have hil : i < s.slots.length := by rw [hi.rep.slen]; exact (List.getElem?_eq_some_iff.1 h0).1
  have hjl : j < s.slots.length := by rw [hi.rep.slen]; exact (List.getElem?_eq_some_iff.1 h1).1
  have HT := Lib.hid (there2 hr i j hsl (in_slots2.2 ⟨⟨by omega, by omega⟩, by omega, by omega⟩))
  have hrA := hr.of_fr (fr_alloc1 w (.cells #[.int .i64 i, .int .i64 j] 3)) (fun _ _ h => h)
  obtain ⟨sb, off, cap, d1, d2, d3, d4, d5⟩ := hrA.slot hil
  obtain ⟨sb', off', cap', d1', d2', d3', d4', d5'⟩ := hrA.slot hjl
  rw [d1] at d1'
  cases d1'
  have key : ∀ q n, q < s.slots.length → A.slots[q]? = some n → newest s (s.slots.getD q 0) = phi φ n ∧ GoodRef s (s.slots.getD q 0) ∧ s.slots.getD q 0 ≤ 4611686018427387904 := by
    intro q n hq hn
    have hx : s.slots[q]? = some (s.slots.getD q 0) := by rw [List.getD_eq_getElem?_getD, List.getElem?_eq_getElem hq]; rfl
    obtain ⟨g1, g2⟩ := hi.rep.newest_ok (hi.rep.slot q _ n hx hn).1 (fun m hm => by subst hm; exact .slot (List.mem_of_getElem? hn))
    refine ⟨g1, g2, ?_⟩
    rcases g2 with h | ⟨h1, h2, h3, _⟩
    · omega
    · exact ref_small hz.small h1 h2 h3
  obtain ⟨a1, a2, a3⟩ := key i n hil h0
  obtain ⟨b1, b2, b3⟩ := key j n' hjl h1
  have HA := Lib.hid (fun W (hW : W.heap = (w.alloc (.cells #[.int .i64 i, .int .i64 j] 3)).heap) => newest_any (w := W) (hrA.of_heap hW) a2 a3 hz.small)
  have HB := Lib.hid (fun W (hW : W.heap = (w.alloc (.cells #[.int .i64 i, .int .i64 j] 3)).heap) => newest_any (w := W) (hrA.of_heap hW) b2 b3 hz.small)
  rw [a1] at HA
  rw [b1] at HB
  have heq : (phi φ n = phi φ n') ↔ n = n' := by
    refine ⟨fun e => ?_, fun e => by rw [e]⟩
    cases n with
    | zero =>
      cases n' with
      | zero => rfl
      | succ m' => have := hi.rep.pos (m := m') (.slot (List.mem_of_getElem? h1)); simp only [phi] at e; omega
    | succ m =>
      cases n' with
      | zero => have := hi.rep.pos (m := m) (.slot (List.mem_of_getElem? h0)); simp only [phi] at e; omega
      | succ m' => rw [hi.rep.inj m m' (.slot (List.mem_of_getElem? h0)) (.slot (List.mem_of_getElem? h1)) e]
  have hdec : decide (n = n') = decide (phi φ n = phi φ n') := by
    by_cases e : n = n'
    · rw [decide_eq_true e, decide_eq_true (heq.2 e)]
    · rw [decide_eq_false e, decide_eq_false (fun h => e (heq.1 h))]
  rw [hdec]
  obtain ⟨x, hx⟩ : ∃ x, x = s.slots.getD i 0 := ⟨_, rfl⟩
  obtain ⟨y, hy⟩ : ∃ y, y = s.slots.getD j 0 := ⟨_, rfl⟩
  obtain ⟨px, hpx⟩ : ∃ x, x = phi φ n := ⟨_, rfl⟩
  obtain ⟨py, hpy⟩ : ∃ x, x = phi φ n' := ⟨_, rfl⟩
  rw [← hx] at HA d3
  rw [← hy] at HB d3'
  rw [← hpx, ← hpy]
  rw [← hpx] at HA
  rw [← hpy] at HB
  have r1 := alloc_cell (cell_of_box hrx).1 (.cells #[.int .i64 i, .int .i64 j] 3)
  have r2 := alloc_frozen (cell_of_box hrx).1 (cell_of_box hrx).2 (.cells #[.int .i64 i, .int .i64 j] 3)
  have e1 := alloc_cell c1 (.cells #[.int .i64 i, .int .i64 j] 3)
  have e2 := alloc_cell c_ax (.cells #[.int .i64 i, .int .i64 j] 3)
  have e3 := alloc_cell c_bx (.cells #[.int .i64 i, .int .i64 j] 3)
  obtain ⟨sl, hsl'⟩ : ∃ sl, sl = s.slots.length := ⟨_, rfl⟩
  rw [← hsl'] at d1 d2 hil hjl hsl
  clear hr hi hz hrA h0 h1 hrx a1 a2 a3 b1 b2 b3 heq hdec hx hy hpx hpy key hsl' d4 d5 d4' d5' d2'
  go_enter Try.func71, Try.ntmps71
  go_wp2_with (first | (go_at_call 50; refine HT.out.mono ?_; rintro e w' ⟨rfl, rfl⟩) | (go_at_call 55; refine (HO.out _ rfl).mono ?_; rintro e w' ⟨rfl, rfl⟩))
  refine wp_region_z (fun W => W.cell? ⟨hx, 0, none⟩ = some (.pointer (some ⟨hb, 0, none⟩)) ∧ W.cell? ⟨ax, 0, none⟩ = some (.int .i64 i) ∧ W.cell? ⟨bx, 0, none⟩ = some (.int .i64 j) ∧ W.cell? ⟨hb, 12, none⟩ = some (.slice (some ⟨sb, off, none⟩) sl cap) ∧ W.cell? ⟨sb, off + i, none⟩ = some (.int .i64 x) ∧ W.cell? ⟨sb, off + j, none⟩ = some (.int .i64 y)) 19 (by kernel_rfl) ?_
  have hS : ((w.alloc (.cells #[.int .i64 i, .int .i64 j] 3))).drew.cell? ⟨hx, 0, none⟩ = some (.pointer (some ⟨hb, 0, none⟩)) ∧ ((w.alloc (.cells #[.int .i64 i, .int .i64 j] 3))).drew.cell? ⟨ax, 0, none⟩ = some (.int .i64 i) ∧ ((w.alloc (.cells #[.int .i64 i, .int .i64 j] 3))).drew.cell? ⟨bx, 0, none⟩ = some (.int .i64 j) ∧ ((w.alloc (.cells #[.int .i64 i, .int .i64 j] 3))).drew.cell? ⟨hb, 12, none⟩ = some (.slice (some ⟨sb, off, none⟩) sl cap) ∧ ((w.alloc (.cells #[.int .i64 i, .int .i64 j] 3))).drew.cell? ⟨sb, off + i, none⟩ = some (.int .i64 x) ∧ ((w.alloc (.cells #[.int .i64 i, .int .i64 j] 3))).drew.cell? ⟨sb, off + j, none⟩ = some (.int .i64 y) := ⟨e1, e2, e3, d1, d3, d3'⟩
  refine anyZ_marks (fuel := 4) (a' := ?a1) [true, true, true, true, true, true, true, true, false, true, true, true, true, true, true, true, true, false, false, false] rfl hS (fun _ _ d _ _ h => by cases d <;> exact h) (by kernel_rfl) (fun W hW => ?_) ?_
  rotate_left
  · obtain ⟨s0, s1, s2, s3, s4, s5⟩ := hW
    simp only [pick]
    repeat (go_big_quiet_step (fail))
    refine wpQuiet_nil ?_
    show _ = _
    with_reducible rfl
  refine anyZ_step 8 rfl (by kernel_rfl) rfl (fun K hK => ?_)
  go_simp
  go_at_call 44
  refine (HA.out ((w.alloc (.cells #[.int .i64 i, .int .i64 j] 3))).drew rfl).mono ?_
  rintro e w' ⟨rfl, rfl⟩
  refine hK _ _ (.inr hS) ?_
  clear hK K
  refine anyZ_step 17 rfl (by kernel_rfl) rfl (fun K hK => ?_)
  go_simp
  go_at_call 44
  refine (HB.out ((w.alloc (.cells #[.int .i64 i, .int .i64 j] 3))).drew rfl).mono ?_
  rintro e w' ⟨rfl, rfl⟩
  refine hK _ _ (.inr hS) ?_
  clear hK K
  refine anyZ_step 18 rfl (by kernel_rfl) rfl (fun K hK => ?_)
  go_simp
  refine hK _ _ (.inr hS) ?_
  clear hK K
  refine anyZ_step 19 rfl (by kernel_rfl) rfl (fun K hK => ?_)
  go_simp
  refine hK _ _ (.inl (by kernel_rfl)) ?_
  clear hK K hS
  refine anyZ_done (by kernel_rfl) ?_ _
  go_end0
  exact ⟨rfl, rfl, rfl, rfl, rfl⟩

set_option maxRecDepth 100000 in
set_option maxHeartbeats 1000000 in
theorem live_clo {hb hx rx : Nat} {r0 : Value} {rt : TypeId} {w : World} {L : Lay} {s : HS} (hr : HRep w hb L s) (c1 : w.cell? ⟨hx, 0, none⟩ = some (.pointer (some ⟨hb, 0, none⟩))) (hsl : s.slots.length ≤ 1000000) {A : AHeap} {G : Areas} {φ : Nat → Int} (hi : InvG s G φ A) (hz : Sized s A) (hrx : w.heap[rx]? = some (.cells #[r0] rt (0, 0))) (nrx : ¬ L.foot hb rx) :
    Calls Try.prog 38 #[.pointer (some ⟨hx, 0, none⟩), .pointer (some ⟨rx, 0, none⟩)] w fun e w' => e = .returned (.tuple #[]) ∧ ∃ W L' s' G' φ', w' = W.setCell ⟨rx, 0, none⟩ (.int .i64 A.live) ∧ Walked hb A L s w W L' s' G' φ' := by
  have HL := Lib.hid (live_any hr hi hz)
  have HX := Lib.hid (And.intro hrx nrx)
  clear hr hi hz hsl nrx hrx
  go_enter Try.func38, Try.ntmps38
  go_wp2_with (go_at_call 39; refine HL.out.mono ?_; rintro e w1 ⟨rfl, L', s', G', φ', hw⟩; have hq := (hw.fr.block rx (Array.getElem?_eq_some_iff.1 HX.out.1).1 HX.out.2).trans HX.out.1; have q1 := (cell_of_box hq).1; have q2 := (cell_of_box hq).2; have HW := Lib.hid hw; clear hw hq)
  go_end0
  exact ⟨rfl, _, L', s', G', φ', rfl, HW.out⟩

end Go.Proofs.Ythjokcjdphempaa
