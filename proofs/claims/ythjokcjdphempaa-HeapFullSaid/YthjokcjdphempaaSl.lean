/- The closures of the methods that work on slots. -/
import Derived.Test.YthjokcjdphempaaCall
namespace Go.Proofs.Ythjokcjdphempaa
open Go.RowKit Hp Go.Shelf

theorem Left.drew {hb : Nat} {L L' : Lay} {w w' : World} (h : Left hb L L' w w') : Left hb L L' w w'.drew := ⟨⟨h.fr.os, h.fr.tape, h.fr.output, h.fr.size, h.fr.block⟩, h.foot⟩

/-- A slice of one number that has just been made. -/
theorem one_sl (w : World) (x : Int) : IsSl (w.alloc (.cells #[.int .i64 x] 3)) (.slice (some ⟨w.heap.size, 0, none⟩) 1 1) [x] :=
  .inr ⟨w.heap.size, 0, 1, [x], rfl, World.alloc_heap_new w _, by simp, by simp, by show 1 ≤ maxLen; decide, rfl⟩

theorem alloc_cell {w : World} {a : Addr} {v : Value} (h : w.cell? a = some v) (o : Obj) : (w.alloc o).cell? a = some v := by
  rw [World.cell?_alloc_lt _ _ _ (World.block_lt_of_cell? _ _ h)]; exact h

theorem alloc_frozen {w : World} {a : Addr} {v : Value} (hc : w.cell? a = some v) (h : w.frozen? a = false) (o : Obj) : (w.alloc o).frozen? a = false := by
  rw [World.frozen?_of_block (Below.heap_alloc w o _ (World.block_lt_of_cell? _ _ hc))]; exact h

/-- A slice of two numbers that has just been made. -/
theorem two_sl (w : World) (x y : Int) : IsSl (w.alloc (.cells #[.int .i64 x, .int .i64 y] 3)) (.slice (some ⟨w.heap.size, 0, none⟩) 2 2) [x, y] :=
  .inr ⟨w.heap.size, 0, 2, [x, y], rfl, World.alloc_heap_new w _, by simp, by simp, by show 2 ≤ maxLen; decide, rfl⟩

theorem in_slots1 {s : HS} {k : Int} : inSlots s [k] = true ↔ 0 ≤ k ∧ k < s.slots.length := by simp [inSlots]
theorem in_slots2 {s : HS} {j k : Int} : inSlots s [j, k] = true ↔ (0 ≤ j ∧ j < s.slots.length) ∧ 0 ≤ k ∧ k < s.slots.length := by simp [inSlots]

/-- What stays of a world when a slice of one number is laid for a call. -/
theorem there1 {hb : Nat} {L : Lay} {s : HS} {w : World} (hr : HRep w hb L s) (k : Int) (hsl : s.slots.length ≤ 1000000) (hk : inSlots s [k] = true) :
    Calls Try.prog 50 #[.pointer (some ⟨hb, 0, none⟩), .slice (some ⟨w.heap.size, 0, none⟩) 1 1] (w.alloc (.cells #[.int .i64 k] 3)) fun e w' => e = .returned (.tuple #[]) ∧ w.alloc (.cells #[.int .i64 k] 3) = w' := by
  refine (there_any (hr.of_fr (fr_alloc1 w (.cells #[.int .i64 k] 3)) (fun _ _ h => h)) (one_sl w k) (by simp) (by omega)).mono ?_
  rintro e w' ⟨rfl, ⟨_, rfl⟩ | ⟨h, _⟩⟩
  · exact ⟨rfl, rfl⟩
  · rw [hk] at h; cases h

theorem there1_no {hb : Nat} {L : Lay} {s : HS} {w : World} (hr : HRep w hb L s) (k : Int) (hsl : s.slots.length ≤ 1000000) (hk : inSlots s [k] = false) :
    Calls Try.prog 50 #[.pointer (some ⟨hb, 0, none⟩), .slice (some ⟨w.heap.size, 0, none⟩) 1 1] (w.alloc (.cells #[.int .i64 k] 3)) fun e w' => e = .panicked (trouble 1) ∧ w.alloc (.cells #[.int .i64 k] 3) = w' := by
  refine (there_any (hr.of_fr (fr_alloc1 w (.cells #[.int .i64 k] 3)) (fun _ _ h => h)) (one_sl w k) (by simp) (by omega)).mono ?_
  rintro e w' ⟨rfl, ⟨h, _⟩ | ⟨_, rfl⟩⟩
  · rw [hk] at h; cases h
  · exact ⟨rfl, rfl⟩

theorem there2 {hb : Nat} {L : Lay} {s : HS} {w : World} (hr : HRep w hb L s) (j k : Int) (hsl : s.slots.length ≤ 1000000) (hk : inSlots s [j, k] = true) :
    Calls Try.prog 50 #[.pointer (some ⟨hb, 0, none⟩), .slice (some ⟨w.heap.size, 0, none⟩) 2 2] (w.alloc (.cells #[.int .i64 j, .int .i64 k] 3)) fun e w' => e = .returned (.tuple #[]) ∧ w.alloc (.cells #[.int .i64 j, .int .i64 k] 3) = w' := by
  refine (there_any (hr.of_fr (fr_alloc1 w (.cells #[.int .i64 j, .int .i64 k] 3)) (fun _ _ h => h)) (two_sl w j k) (by simp) (by omega)).mono ?_
  rintro e w' ⟨rfl, ⟨_, rfl⟩ | ⟨h, _⟩⟩
  · exact ⟨rfl, rfl⟩
  · rw [hk] at h; cases h

theorem there2_no {hb : Nat} {L : Lay} {s : HS} {w : World} (hr : HRep w hb L s) (j k : Int) (hsl : s.slots.length ≤ 1000000) (hk : inSlots s [j, k] = false) :
    Calls Try.prog 50 #[.pointer (some ⟨hb, 0, none⟩), .slice (some ⟨w.heap.size, 0, none⟩) 2 2] (w.alloc (.cells #[.int .i64 j, .int .i64 k] 3)) fun e w' => e = .panicked (trouble 1) ∧ w.alloc (.cells #[.int .i64 j, .int .i64 k] 3) = w' := by
  refine (there_any (hr.of_fr (fr_alloc1 w (.cells #[.int .i64 j, .int .i64 k] 3)) (fun _ _ h => h)) (two_sl w j k) (by simp) (by omega)).mono ?_
  rintro e w' ⟨rfl, ⟨h, _⟩ | ⟨_, rfl⟩⟩
  · rw [hk] at h; cases h
  · exact ⟨rfl, rfl⟩

set_option maxRecDepth 100000 in
set_option maxHeartbeats 1000000 in
theorem clear_no {hb hx sx : Nat} {k : Int} {w : World} {L : Lay} {s : HS} (hr : HRep w hb L s) (c1 : w.cell? ⟨hx, 0, none⟩ = some (.pointer (some ⟨hb, 0, none⟩))) (c2 : w.cell? ⟨sx, 0, none⟩ = some (.int .i64 k)) (hsl : s.slots.length ≤ 1000000)
    (hk : inSlots s [k] = false) :
    Calls Try.prog 74 #[.pointer (some ⟨hx, 0, none⟩), .pointer (some ⟨sx, 0, none⟩)] w fun e w' => e = .panicked (trouble 1) ∧ w.alloc (.cells #[.int .i64 k] 3) = w' := by
  have HT := Lib.hid (there1_no hr k hsl hk)
  clear hr hk
  go_enter Try.func74, Try.ntmps74
  go_wp2_with (go_at_call 50; refine HT.out.mono ?_; rintro e w' ⟨rfl, rfl⟩)
  exact ⟨rfl, rfl, rfl⟩

set_option maxRecDepth 100000 in
set_option maxHeartbeats 1000000 in
theorem clear_yes {hb hx sx i : Nat} {w : World} {L : Lay} {s : HS} (hr : HRep w hb L s) (c1 : w.cell? ⟨hx, 0, none⟩ = some (.pointer (some ⟨hb, 0, none⟩))) (c2 : w.cell? ⟨sx, 0, none⟩ = some (.int .i64 i)) (hsl : s.slots.length ≤ 1000000)
    (hi : i < s.slots.length) :
    Calls Try.prog 74 #[.pointer (some ⟨hx, 0, none⟩), .pointer (some ⟨sx, 0, none⟩)] w fun e w' => e = .returned (.tuple #[]) ∧ HRep w' hb L { s with slots := s.slots.set i 0 } ∧ Left hb L L w w' := by
  have HT := Lib.hid (there1 hr i hsl (in_slots1.2 ⟨by omega, by omega⟩))
  obtain ⟨b, off, cap, d1, d2, d3, d4, d5⟩ := hr.slot hi
  have hput := (hr.of_fr (fr_alloc1 w (.cells #[.int .i64 i] 3)) (fun _ _ h => h)).put (i := 3) (by omega) d4 (p := i) hi 0
  have hleft : Left hb L L w ((w.alloc (.cells #[.int .i64 i] 3)).setCell ⟨b, off + i, none⟩ (.int .i64 0)) :=
    Left.trans ⟨(fr_alloc1 w (.cells #[.int .i64 i] 3)).mono fun _ h => h.elim, fun _ h => .inl h⟩ (left_setCell _ hb L (ownBlock_foot (i := 3) (by omega) (by rw [d4]; rfl)) (off + i) _)
  have e1 := alloc_cell c1 (.cells #[.int .i64 i] 3)
  have e2 := alloc_cell c2 (.cells #[.int .i64 i] 3)
  have e3 := alloc_cell d1 (.cells #[.int .i64 i] 3)
  have e4 := alloc_cell d3 (.cells #[.int .i64 i] 3)
  have e5 := alloc_frozen d3 d5 (.cells #[.int .i64 i] 3)
  have HP := Lib.hid (And.intro hput hleft)
  obtain ⟨n, hn⟩ : ∃ n, n = s.slots.length := ⟨_, rfl⟩
  rw [← hn] at d1 d2 e3 hi hsl
  clear hr hput hleft hn d3 d4 d5
  go_enter Try.func74, Try.ntmps74
  go_wp2_with (go_at_call 50; refine HT.out.mono ?_; rintro e w' ⟨rfl, rfl⟩)
  refine wp_region_z (fun W => W.cell? ⟨hx, 0, none⟩ = some (.pointer (some ⟨hb, 0, none⟩)) ∧ W.cell? ⟨sx, 0, none⟩ = some (.int .i64 i) ∧ W.cell? ⟨hb, 12, none⟩ = some (.slice (some ⟨b, off, none⟩) n cap)) 6 (by kernel_rfl) ?_
  have hS : (w.alloc (.cells #[.int .i64 i] 3)).drew.cell? ⟨hx, 0, none⟩ = some (.pointer (some ⟨hb, 0, none⟩)) ∧ (w.alloc (.cells #[.int .i64 i] 3)).drew.cell? ⟨sx, 0, none⟩ = some (.int .i64 i) ∧ (w.alloc (.cells #[.int .i64 i] 3)).drew.cell? ⟨hb, 12, none⟩ = some (.slice (some ⟨b, off, none⟩) n cap) := ⟨e1, e2, e3⟩
  refine anyZ_marks (fuel := 1) (a' := ?a1) [true, true, true, true, true, true, false] rfl hS (fun _ _ d _ _ h => by cases d <;> exact h) (by kernel_rfl) (fun W hW => ?_) ?_
  rotate_left
  · obtain ⟨s1, s2, s3⟩ := hW
    simp only [pick]
    repeat (go_big_quiet_step (fail))
    refine wpQuiet_nil ?_
    show _ = _
    with_reducible rfl
  refine anyZ_step 6 rfl (by kernel_rfl) rfl (fun K hK => ?_)
  go_simp
  refine hK _ _ (.inl (by kernel_rfl)) ?_
  clear hK K hS
  refine anyZ_done (by kernel_rfl) ?_ _
  go_end0
  exact ⟨rfl, HP.out.1.of_heap rfl, HP.out.2.drew⟩
/-- The object of a slot, as the program finds it. -/
structure ObjIn (hb : Nat) (L : Lay) (s : HS) (A : AHeap) (φ : Nat → Int) (G : Areas) (w : World) (i m b p : Nat) : Prop where
  reach : Hp.Reach A m
  slot : A.slots[i]? = some (m + 1)
  call : ∀ W : World, W.heap = w.heap → Calls Try.prog 55 #[.pointer (some ⟨hb, 0, none⟩), .int .i64 i] W fun e w' => e = .returned (.slice (some ⟨b, p, none⟩) (A.obj m).size (A.obj m).size) ∧ W = w'
  head : w.cell? ⟨b, p, none⟩ = some (.int .i64 (hdr (A.obj m).tag (A.obj m).refs.length (A.obj m).raws.length))
  refs : ∀ k n, (A.obj m).refs[k]? = some n → ∃ x, w.cell? ⟨b, p + (1 + k), none⟩ = some (.int .i64 x) ∧ RefOk G φ s.now x n
  raws : ∀ k v, (A.obj m).raws[k]? = some v → w.cell? ⟨b, p + (1 + (A.obj m).refs.length + k), none⟩ = some (.int .i64 v)
  froz : ∀ j, w.frozen? ⟨b, p + j, none⟩ = false
  fits : (A.obj m).tag < 65536 ∧ (A.obj m).refs.length ≤ 4000 ∧ (A.obj m).raws.length ≤ 4000
  area : aOf (φ m) < 3
  own : ∃ off n cap, L.v (aOf (φ m)) = .slice (some ⟨b, off, none⟩) n cap ∧ p = off + pOf (φ m)
  len : pOf (φ m) + (A.obj m).size ≤ (s.ar (aOf (φ m))).length

theorem slot_zero {hb : Nat} {L : Lay} {s : HS} {w : World} {A : AHeap} {G : Areas} {φ : Nat → Int} (hr : HRep w hb L s) (hi : InvG s G φ A) {i : Nat} (h0 : A.slots[i]? = some 0) :
    Calls Try.prog 55 #[.pointer (some ⟨hb, 0, none⟩), .int .i64 i] w fun e w' => e = .panicked (trouble 5) ∧ w = w' := by
  have hlt : i < s.slots.length := by rw [hi.rep.slen]; exact (List.getElem?_eq_some_iff.1 h0).1
  refine object_none hr hlt ?_
  have hx : s.slots[i]? = some (s.slots.getD i 0) := by rw [List.getD_eq_getElem?_getD, List.getElem?_eq_getElem hlt]; rfl
  rcases (hi.rep.slot i _ 0 hx h0).1 with h | ⟨m, o, h, _⟩
  · exact h
  · omega

set_option maxHeartbeats 1000000 in
theorem slot_some {hb : Nat} {L : Lay} {s : HS} {w : World} {A : AHeap} {G : Areas} {φ : Nat → Int} (hr : HRep w hb L s) (hi : InvG s G φ A) (hz : Sized s A) {i m : Nat} (h0 : A.slots[i]? = some (m + 1)) :
    ∃ b p, ObjIn hb L s A φ G w i m b p := by
  have hlt : i < s.slots.length := by rw [hi.rep.slen]; exact (List.getElem?_eq_some_iff.1 h0).1
  have hre : Hp.Reach A m := .slot (List.mem_of_getElem? h0)
  have hx : s.slots[i]? = some (s.slots.getD i 0) := by rw [List.getD_eq_getElem?_getD, List.getElem?_eq_getElem hlt]; rfl
  have hrok := (hi.rep.slot i _ _ hx h0).1
  obtain ⟨g1, g2⟩ := hi.rep.newest_ok hrok (fun j hj => by cases hj; exact hre)
  obtain ⟨at1, at2, at3, at4, at5⟩ := obj_at hi.rep hz.small hre
  have hne : s.slots.getD i 0 ≠ 0 := fun e => by have := ref_zero hrok (fun j hj => by cases hj; exact hi.rep.pos hre) e; omega
  have hfit : s.slots.getD i 0 ≤ 4611686018427387904 := by
    rcases g2 with h | ⟨h1, h2, h3, _⟩
    · exact absurd h hne
    · exact ref_small hz.small h1 h2 h3
  obtain ⟨fs, l1, l2, l3⟩ := hi.rep.obj m hre
  obtain ⟨off, n, cap, b, e⟩ : ∃ off n cap b, L.v (aOf (φ m)) = .slice (some ⟨b, off, none⟩) n cap := by
    obtain ⟨b, off, cap, e, _⟩ := (hr.ar (aOf (φ m)) at1.area).get (i := pOf (φ m)) (by have := at1.size; rw [at3] at this; unfold AObj.size at this; omega)
    exact ⟨off, _, cap, b, e⟩
  have hlen : pOf (φ m) + (A.obj m).size ≤ (s.ar (aOf (φ m))).length := by have := at1.size; rw [at3] at this; exact this
  have hcell : ∀ j x, (hdr (A.obj m).tag (A.obj m).refs.length (A.obj m).raws.length :: (fs ++ (A.obj m).raws))[j]? = some x → w.cell? ⟨b, off + pOf (φ m) + j, none⟩ = some (.int .i64 x) := by
    intro j x hj
    have hjl := (List.getElem?_eq_some_iff.1 hj).1
    have hg := l1.2.2.get hjl
    rw [← hi.rep.flat _ l1.2.1, hj] at hg
    have hpl := (List.getElem?_eq_some_iff.1 hg).1
    obtain ⟨b', off', cap', e', q1, q2, _⟩ := (hr.ar (aOf (φ m)) at1.area).get hpl
    rw [e] at e'
    cases e'
    have := q2 _ hpl
    rw [List.getD_eq_getElem?_getD, hg] at this
    rw [Nat.add_assoc]
    exact this
  refine ⟨b, off + pOf (φ m), hre, h0, fun W hW => ?_, by have := hcell 0 _ rfl; simpa using this, ?_, ?_, ?_, hi.rep.fits m hre, at1.area, ⟨off, n, cap, e, rfl⟩, hlen⟩
  · have := object_some (n := φ m) (hr.of_heap hW) hlt hne g2 hfit hz.small g1 at1
    rw [e, at3] at this
    exact this
  · intro k n' hk
    have hkl := (List.getElem?_eq_some_iff.1 hk).1
    have hfk : fs[k]? = some fs[k] := List.getElem?_eq_getElem (by omega)
    refine ⟨fs[k], ?_, (l3 k _ n' hfk hk).1⟩
    have := hcell (1 + k) fs[k] (by rw [Nat.add_comm, List.getElem?_cons_succ, List.getElem?_append_left (by omega)]; exact hfk)
    exact this
  · intro k v hk
    refine hcell (1 + (A.obj m).refs.length + k) v ?_
    rw [show 1 + (A.obj m).refs.length + k = (fs.length + k) + 1 by omega, List.getElem?_cons_succ, List.getElem?_append_right (by omega)]
    rw [Nat.add_sub_cancel_left]; exact hk
  · intro j
    rcases hr.ar (aOf (φ m)) at1.area with ⟨e', _⟩ | ⟨b', off', cap', cs, e', hb', _⟩
    · rw [e] at e'; cases e'
    · rw [e] at e'; cases e'; simp [World.frozen?, hb']
end Go.Proofs.Ythjokcjdphempaa
