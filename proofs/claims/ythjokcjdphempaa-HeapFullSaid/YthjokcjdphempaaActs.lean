/- What the methods of a heap that sanity calls do. -/
import Derived.Test.YthjokcjdphempaaMeth
namespace Go.Proofs.Ythjokcjdphempaa
open Go.RowKit Hp Go.Shelf

/-- The heap behind an act. -/
def After (hb : Nat) (L : Lay) (s : HS) (w : World) (A' : AHeap) (k' : Nat) (w' : World) : Prop :=
  ∃ L' s', HRep w' hb L' s' ∧ Good s' A' k' ∧ Left hb L L' w w' ∧ s'.room = s.room ∧ s'.young = s.young

theorem After.of {hb : Nat} {L L1 : Lay} {s s1 : HS} {w w' : World} {A' : AHeap} {k' : Nat} {c : Int} (h : HRep w' hb L1 { s1 with worst := worse s1.worst c }) (hl : Left hb L L1 w w') (hG : Good s1 A' k') (h1 : s1.room = s.room) (h2 : s1.young = s.young) : After hb L s w A' k' w' :=
  ⟨L1, _, h, hG.worst _, hl, h1, h2⟩

section
variable {hb : Nat} {L : Lay} {s : HS} {w : World} {A : AHeap} {k : Nat}

theorem Good.keeps (hG : Good s A k) {s' : HS} {A' : AHeap} {G' : Areas} {φ' : Nat → Int} (hi : InvG s' G' φ' A') (h1 : s'.big = s.big) (h2 : s'.words = s.words) (h3 : s'.copied = s.copied) (h4 : A'.objs.length = A.objs.length) (h5 : A'.slots.length ≤ 4096)
    (h6 : A'.live ≤ A.live) (h7 : s'.bound = s.bound) (h8 : s'.room = s.room) (h9 : s'.objs = s.objs) : Good s' A' k :=
  ⟨⟨G', φ', hi⟩, by rw [h1]; exact hG.big, by rw [h2, h3]; exact hG.wc, by rw [h4]; exact hG.objs, h5, by rw [h7]; have := hG.bnd; omega, by rw [h7, h8]; exact hG.bndr, by rw [h9]; exact hG.obj, hG.kb⟩

theorem Grow_yes (hr : HRep w hb L s) (hG : Good s A k) {n : Nat} (hn : n + A.slots.length ≤ 4096) :
    Calls Try.prog 27 #[.pointer (some ⟨hb, 0, none⟩), .int .i64 n] w fun e w' => e = .returned (.int .i64 0) ∧ After hb L s w (A.grow n) k w' := by
  obtain ⟨b1, b2, b3, b4, b5, b6⟩ := hG.bounds
  refine (Grow_w (R := fun x w' => x = 0 ∧ After hb L s w (A.grow n) k w') ((meth0 (os := [.cells #[.pointer (some ⟨hb, 0, none⟩)] 23, .cells #[.int .i64 n] 3]) hr hG (enters_of Try.func66 (by kernel_rfl) rfl)
    (R := fun x s1 => x = 0 ∧ Good s1 (A.grow n) k ∧ s1.room = s.room ∧ s1.young = s.young) ?_).mono ?_)).mono ?_
  · intro Wc hf hrc
    have x0 := box_at hf 0 rfl
    have x1 := box_at hf 1 rfl
    refine (grow_clo hrc (cell_of_box x0).1 (cell_of_box x1).1 (foot_lt hr (by omega)) (foot_lt hr (by omega)) (by omega)).mono ?_
    rintro e W1 ⟨rfl, L1, h1, h2⟩
    obtain ⟨G, φ, hi⟩ := hG.inv
    refine ⟨L1, _, none, .inl ⟨rfl, rfl⟩, h1, h2, ⟨Int.le_refl _, by show s.copied ≤ _; omega⟩, rfl, hG.keeps (hi.grow n).1 rfl rfl rfl rfl ?_ ?_ rfl rfl rfl, rfl, rfl⟩
    · simp [AHeap.grow]; omega
    · exact live_le hi.rep.wf fun m hm => ⟨reach_mono (A := A) (A' := A.grow n) (fun j hj => by
        rcases List.mem_append.1 hj with h | h
        · exact h
        · have := (List.mem_replicate.1 h).2; omega) rfl hm, rfl⟩
  · rintro e w' ⟨x, rfl, L1, s1, h1, h2, hx, h3, h4, h5⟩
    exact ⟨x, rfl, hx, After.of h1 h2 h3 h4 h5⟩
  · rintro e w' ⟨x, rfl, rfl, h⟩
    exact ⟨rfl, h⟩

theorem Set_yes (hr : HRep w hb L s) (hG : Good s A k) {i m r j n : Nat} (h0 : A.slots[i]? = some (m + 1)) (hr0 : r < (A.obj m).refs.length) (hj : A.slots[j]? = some n) :
    Calls Try.prog 28 #[.pointer (some ⟨hb, 0, none⟩), .int .i64 i, .int .i64 r, .int .i64 j] w fun e w' => e = .returned (.int .i64 0) ∧ After hb L s w (A.setRef m r n) k w' := by
  obtain ⟨b1, b2, b3, b4, b5, b6⟩ := hG.bounds
  have hnsl := hG.nsl
  refine (Set_w (R := fun x w' => x = 0 ∧ After hb L s w (A.setRef m r n) k w') ((meth0 (os := [.cells #[.pointer (some ⟨hb, 0, none⟩)] 23, .cells #[.int .i64 i] 3, .cells #[.int .i64 r] 3, .cells #[.int .i64 j] 3]) hr hG (enters_of Try.func67 (by kernel_rfl) rfl)
    (R := fun x s1 => x = 0 ∧ Good s1 (A.setRef m r n) k ∧ s1.room = s.room ∧ s1.young = s.young) ?_).mono ?_)).mono ?_
  · intro Wc hf hrc
    have x0 := box_at hf 0 rfl
    have x1 := box_at hf 1 rfl
    have x2 := box_at hf 2 rfl
    have x3 := box_at hf 3 rfl
    obtain ⟨G, φ, hi⟩ := hG.inv
    refine (set_yes (fx := w.heap.size + 1 + 1 + 1) hrc (cell_of_box x0).1 (by omega) (cell_of_box x1).1 (cell_of_box x3).1 (cell_of_box x2).1 hi hG.sized hj h0 hr0).mono ?_
    rintro e W1 ⟨rfl, y, hy, h1, h2⟩
    have hre : Hp.Reach A m := .slot (List.mem_of_getElem? h0)
    have hnn : ∀ q, n = q + 1 → Hp.Reach A q := fun q e => .slot (List.mem_of_getElem? (by rw [hj, e]))
    obtain ⟨G', hi', _⟩ := hi.setRef hre hr0 hy hnn
    have hs := (same_setAr s (aOf (φ m)) ((s.ar (aOf (φ m))).set (pOf (φ m) + (r + 1)) y))
    have hml := hre.lt hi.rep.wf
    refine ⟨L, _, none, .inl ⟨rfl, rfl⟩, h1, h2, ?_, rfl, hG.keeps hi' hs.1.big hs.1.words hs.2 (by simp [AHeap.setRef]) hG.nsl ?_ hs.1.bound hs.1.room hs.1.objs, hs.1.room, hs.1.young⟩
    · have h9 : (fieldSet s (φ m) r y).copied = s.copied := hs.2
      rw [h9]; exact ⟨Int.le_refl _, by omega⟩
    · refine live_le hi.rep.wf fun q hq => ⟨reach_setRef hml hnn hq, ?_⟩
      rw [obj_setRef A m r n q hml]
      split
      · rename_i e; subst e; simp [AObj.size]
      · rfl
  · rintro e w' ⟨x, rfl, L1, s1, h1, h2, hx, h3, h4, h5⟩
    exact ⟨x, rfl, hx, After.of h1 h2 h3 h4 h5⟩
  · rintro e w' ⟨x, rfl, rfl, h⟩
    exact ⟨rfl, h⟩

theorem Store_yes (hr : HRep w hb L s) (hG : Good s A k) {i m r : Nat} {v : Int} (h0 : A.slots[i]? = some (m + 1)) (hr0 : r < (A.obj m).raws.length) :
    Calls Try.prog 29 #[.pointer (some ⟨hb, 0, none⟩), .int .i64 i, .int .i64 r, .int .i64 v] w fun e w' => e = .returned (.int .i64 0) ∧ After hb L s w (A.setRaw m r v) k w' := by
  obtain ⟨b1, b2, b3, b4, b5, b6⟩ := hG.bounds
  have hnsl := hG.nsl
  refine (Store_w (R := fun x w' => x = 0 ∧ After hb L s w (A.setRaw m r v) k w') ((meth0 (os := [.cells #[.pointer (some ⟨hb, 0, none⟩)] 23, .cells #[.int .i64 i] 3, .cells #[.int .i64 r] 3, .cells #[.int .i64 v] 3]) hr hG (enters_of Try.func68 (by kernel_rfl) rfl)
    (R := fun x s1 => x = 0 ∧ Good s1 (A.setRaw m r v) k ∧ s1.room = s.room ∧ s1.young = s.young) ?_).mono ?_)).mono ?_
  · intro Wc hf hrc
    have x0 := box_at hf 0 rfl
    have x1 := box_at hf 1 rfl
    have x2 := box_at hf 2 rfl
    have x3 := box_at hf 3 rfl
    obtain ⟨G, φ, hi⟩ := hG.inv
    refine (store_yes (nx := w.heap.size + 1 + 1 + 1) hrc (cell_of_box x0).1 (by omega) (cell_of_box x1).1 (cell_of_box x3).1 (cell_of_box x2).1 hi hG.sized h0 hr0).mono ?_
    rintro e W1 ⟨rfl, h1, h2⟩
    have hre : Hp.Reach A m := .slot (List.mem_of_getElem? h0)
    obtain ⟨G', hi', _⟩ := hi.setRaw (v := v) hre hr0
    have hs := (same_setAr s (aOf (φ m)) ((s.ar (aOf (φ m))).set (pOf (φ m) + (1 + (A.obj m).refs.length + r)) v))
    have hml := hre.lt hi.rep.wf
    refine ⟨L, _, none, .inl ⟨rfl, rfl⟩, h1, h2, ?_, rfl, hG.keeps hi' hs.1.big hs.1.words hs.2 (by simp [AHeap.setRaw]) hG.nsl ?_ hs.1.bound hs.1.room hs.1.objs, hs.1.room, hs.1.young⟩
    · rw [hs.2]; exact ⟨Int.le_refl _, by omega⟩
    · refine live_le hi.rep.wf fun q hq => ⟨(reach_setRaw hml).1 hq, ?_⟩
      rw [obj_setRaw A m r v q hml]
      split
      · rename_i e; subst e; simp [AObj.size]
      · rfl
  · rintro e w' ⟨x, rfl, L1, s1, h1, h2, hx, h3, h4, h5⟩
    exact ⟨x, rfl, hx, After.of h1 h2 h3 h4 h5⟩
  · rintro e w' ⟨x, rfl, rfl, h⟩
    exact ⟨rfl, h⟩

theorem Get_yes (hr : HRep w hb L s) (hG : Good s A k) {j i m r n : Nat} (hj : j < A.slots.length) (h0 : A.slots[i]? = some (m + 1)) (hr0 : (A.obj m).refs[r]? = some n) :
    Calls Try.prog 30 #[.pointer (some ⟨hb, 0, none⟩), .int .i64 j, .int .i64 i, .int .i64 r] w fun e w' => e = .returned (.int .i64 0) ∧ After hb L s w (A.setSlot j n) k w' := by
  obtain ⟨b1, b2, b3, b4, b5, b6⟩ := hG.bounds
  have hnsl := hG.nsl
  refine (Get_w (R := fun x w' => x = 0 ∧ After hb L s w (A.setSlot j n) k w') ((meth0 (os := [.cells #[.pointer (some ⟨hb, 0, none⟩)] 23, .cells #[.int .i64 j] 3, .cells #[.int .i64 i] 3, .cells #[.int .i64 r] 3]) hr hG (enters_of Try.func70 (by kernel_rfl) rfl)
    (R := fun x s1 => x = 0 ∧ Good s1 (A.setSlot j n) k ∧ s1.room = s.room ∧ s1.young = s.young) ?_).mono ?_)).mono ?_
  · intro Wc hf hrc
    have x0 := box_at hf 0 rfl
    have x1 := box_at hf 1 rfl
    have x2 := box_at hf 2 rfl
    have x3 := box_at hf 3 rfl
    obtain ⟨G, φ, hi⟩ := hG.inv
    refine (get_yes hrc (cell_of_box x0).1 (by omega) (cell_of_box x1).1 (cell_of_box x2).1 (cell_of_box x3).1 hi hG.sized (by omega) h0 hr0).mono ?_
    rintro e W1 ⟨rfl, y, hy, h1, h2⟩
    have hre : Hp.Reach A m := .slot (List.mem_of_getElem? h0)
    have hnn : ∀ q, n = q + 1 → Hp.Reach A q := fun q e => .ref hre (List.mem_of_getElem? (by rw [hr0, e]))
    obtain ⟨hi', _⟩ := hi.setSlot (i := j) hy hnn
    refine ⟨L, _, none, .inl ⟨rfl, rfl⟩, h1, h2, ⟨Int.le_refl _, by show s.copied ≤ _; omega⟩, rfl, hG.keeps hi' rfl rfl rfl rfl (by simp [AHeap.setSlot]; omega) ?_ rfl rfl rfl, rfl, rfl⟩
    exact live_le hi.rep.wf fun _ h => ⟨reach_setSlot hnn h, rfl⟩
  · rintro e w' ⟨x, rfl, L1, s1, h1, h2, hx, h3, h4, h5⟩
    exact ⟨x, rfl, hx, After.of h1 h2 h3 h4 h5⟩
  · rintro e w' ⟨x, rfl, rfl, h⟩
    exact ⟨rfl, h⟩
end
end Go.Proofs.Ythjokcjdphempaa

namespace Go.Proofs.Ythjokcjdphempaa
open Go.RowKit Hp Go.Shelf

theorem setCell_id {w : World} {b : Nat} {v : Value} {t : TypeId} (h : w.heap[b]? = some (.cells #[v] t (0, 0))) : (w.setCell ⟨b, 0, none⟩ v).heap = w.heap := by
  apply Array.ext_getElem?
  intro i
  by_cases e : i = b
  · subst e; rw [setCell_block w i 0 v h, h]; rfl
  · exact setCell_other w b 0 v e

section
variable {hb : Nat} {L : Lay} {s : HS} {w : World} {A : AHeap} {k : Nat}

theorem After.eqw {w' w'' : World} {A' : AHeap} {k' : Nat} (h : After hb L s w A' k' w') {rx : Nat} {v : Value} {t : TypeId} (hw : Eqw (w'.setCell ⟨rx, 0, none⟩ v) w'') (hx : w'.heap[rx]? = some (.cells #[v] t (0, 0))) : After hb L s w A' k' w'' := by
  obtain ⟨L', s', h1, h2, h3, h4, h5⟩ := h
  have hh : w''.heap = w'.heap := hw.1.trans (setCell_id hx)
  exact ⟨L', s', h1.of_heap hh, h2, ⟨⟨hw.2.1.trans h3.fr.os, hw.2.2.1.trans h3.fr.tape, hw.2.2.2.trans h3.fr.output, by rw [hh]; exact h3.fr.size, fun j hj hn => by rw [hh]; exact h3.fr.block j hj hn⟩, h3.foot⟩, h4, h5⟩

/-- The heap behind a closure that lays a number in a box, and writes nothing else but new blocks. -/
theorem boxed_result {Wc W1 : World} {o : Obj} {rx : Nat} {v v0 : Value} {t : TypeId} (hrc : HRep Wc hb L s) (hrx : Wc.heap[rx]? = some (.cells #[v0] t (0, 0))) (hnf : ¬ L.foot hb rx) (hw : Eqw ((Wc.alloc o).setCell ⟨rx, 0, none⟩ v) W1) :
    HRep W1 hb L s ∧ LeftX (fun j => j = rx) hb L L Wc W1 ∧ W1.heap[rx]? = some (.cells #[v] t (0, 0)) := by
  have hlt := (Array.getElem?_eq_some_iff.1 hrx).1
  have fa := fr_alloc1 Wc o
  have ra := hrc.of_fr fa (fun _ _ h => h)
  have fs := fr_setCell (Wc.alloc o) rx 0 v
  refine ⟨(ra.of_fr fs fun j hj e => hnf (e ▸ hj)).of_heap hw.1, ⟨?_, fun _ h => .inl h⟩, ?_⟩
  · have F := (fa.mono (B' := fun k => L.foot hb k ∨ k = rx) fun _ h => h.elim).trans fs (fun j hj => .inl (.inr hj))
    exact F.trans (hw.fr (fun _ => False)) fun _ h => h.elim
  · have h0 : (Wc.alloc o).heap[rx]? = some (.cells #[v0] t (0, 0)) := by rw [Below.heap_alloc _ _ _ hlt]; exact hrx
    rw [hw.1, setCell_block _ rx 0 v h0]; rfl

theorem Load_yes (hr : HRep w hb L s) (hG : Good s A k) {i m r : Nat} {v : Int} (h0 : A.slots[i]? = some (m + 1)) (hr0 : (A.obj m).raws[r]? = some v) :
    Calls Try.prog 32 #[.pointer (some ⟨hb, 0, none⟩), .int .i64 i, .int .i64 r] w fun e w' => e = .returned (.tuple #[.int .i64 v, .int .i64 0]) ∧ After hb L s w A k w' := by
  obtain ⟨b1, b2, b3, b4, b5, b6⟩ := hG.bounds
  have hnsl := hG.nsl
  have hlt := hr.lt (.inl rfl)
  refine (Load_w (R := fun x y w' => x = 0 ∧ y = v ∧ w'.heap[w.heap.size + 1 + 1 + 1]? = some (.cells #[.int .i64 v] 3 (0, 0)) ∧ After hb L s w A k w') ((methX (rx := w.heap.size + 1 + 1 + 1) (os := [.cells #[.pointer (some ⟨hb, 0, none⟩)] 23, .cells #[.int .i64 i] 3, .cells #[.int .i64 r] 3, .cells #[.int .i64 0] 3]) hr hG (by simp; omega) (enters_of Try.func72 (by kernel_rfl) rfl)
    (R := fun x s1 W1 => x = 0 ∧ Good s1 A k ∧ s1.room = s.room ∧ s1.young = s.young ∧ W1.heap[w.heap.size + 1 + 1 + 1]? = some (.cells #[.int .i64 v] 3 (0, 0))) ?_).mono ?_)).mono ?_
  · intro Wc hf hcs hrc
    have x0 := box_at hf 0 rfl
    have x1 := box_at hf 1 rfl
    have x2 := box_at hf 2 rfl
    have x3 : Wc.heap[w.heap.size + 1 + 1 + 1]? = some (.cells #[.int .i64 0] 3 (0, 0)) := box_at hf 3 rfl
    obtain ⟨G, φ, hi⟩ := hG.inv
    refine (load_yes hrc (cell_of_box x0).1 (by omega) (cell_of_box x1).1 (cell_of_box x2).1 hi hG.sized h0 hr0 x3).mono ?_
    rintro e W1 ⟨rfl, hw⟩
    obtain ⟨q1, q2, q3⟩ := boxed_result hrc x3 (foot_lt hr (by omega)) hw
    exact ⟨L, s, none, .inl ⟨rfl, rfl⟩, q1, q2, ⟨Int.le_refl _, by omega⟩, rfl, hG, rfl, rfl, q3⟩
  · rintro e w' ⟨x, W1, rfl, L1, s1, h1, h2, ⟨hx, h3, h4, h5, h6⟩, h7⟩
    have hl6 := (Array.getElem?_eq_some_iff.1 h6).1
    have h8 : w'.heap[w.heap.size + 1 + 1 + 1]? = some (.cells #[.int .i64 v] 3 (0, 0)) := by rw [h7 _ hl6 (by omega) (by simp)]; exact h6
    exact ⟨x, v, rfl, (cell_of_box h8).1, (cell_of_box h8).2, hx, rfl, h8, After.of h1 h2 h3 h4 h5⟩
  · rintro e w' ⟨W, x, y, rfl, ⟨rfl, rfl, h8, h⟩, hw⟩
    exact ⟨rfl, h.eqw hw h8⟩

theorem Alike_yes (hr : HRep w hb L s) (hG : Good s A k) {i j n n' : Nat} (h0 : A.slots[i]? = some n) (h1 : A.slots[j]? = some n') :
    Calls Try.prog 31 #[.pointer (some ⟨hb, 0, none⟩), .int .i64 i, .int .i64 j] w fun e w' => e = .returned (.tuple #[.bool (decide (n = n')), .int .i64 0]) ∧ After hb L s w A k w' := by
  obtain ⟨b1, b2, b3, b4, b5, b6⟩ := hG.bounds
  have hnsl := hG.nsl
  have hlt := hr.lt (.inl rfl)
  refine (Alike_w (R := fun x y w' => x = 0 ∧ y = decide (n = n') ∧ w'.heap[w.heap.size + 1 + 1 + 1]? = some (.cells #[.bool (decide (n = n'))] 4 (0, 0)) ∧ After hb L s w A k w') ((methX (rx := w.heap.size + 1 + 1 + 1) (os := [.cells #[.pointer (some ⟨hb, 0, none⟩)] 23, .cells #[.int .i64 i] 3, .cells #[.int .i64 j] 3, .cells #[.bool false] 4]) hr hG (by simp; omega) (enters_of Try.func71 (by kernel_rfl) rfl)
    (R := fun x s1 W1 => x = 0 ∧ Good s1 A k ∧ s1.room = s.room ∧ s1.young = s.young ∧ W1.heap[w.heap.size + 1 + 1 + 1]? = some (.cells #[.bool (decide (n = n'))] 4 (0, 0))) ?_).mono ?_)).mono ?_
  · intro Wc hf hcs hrc
    have x0 := box_at hf 0 rfl
    have x1 := box_at hf 1 rfl
    have x2 := box_at hf 2 rfl
    have x3 : Wc.heap[w.heap.size + 1 + 1 + 1]? = some (.cells #[.bool false] 4 (0, 0)) := box_at hf 3 rfl
    obtain ⟨G, φ, hi⟩ := hG.inv
    refine (alike_yes hrc (cell_of_box x0).1 (by omega) (cell_of_box x1).1 (cell_of_box x2).1 hi hG.sized h0 h1 x3).mono ?_
    rintro e W1 ⟨rfl, hw⟩
    obtain ⟨q1, q2, q3⟩ := boxed_result hrc x3 (foot_lt hr (by omega)) hw
    exact ⟨L, s, none, .inl ⟨rfl, rfl⟩, q1, q2, ⟨Int.le_refl _, by omega⟩, rfl, hG, rfl, rfl, q3⟩
  · rintro e w' ⟨x, W1, rfl, L1, s1, h1, h2, ⟨hx, h3, h4, h5, h6⟩, h7⟩
    have hl6 := (Array.getElem?_eq_some_iff.1 h6).1
    have h8 : w'.heap[w.heap.size + 1 + 1 + 1]? = some (.cells #[.bool (decide (n = n'))] 4 (0, 0)) := by rw [h7 _ hl6 (by omega) (by simp)]; exact h6
    exact ⟨x, _, rfl, (cell_of_box h8).1, (cell_of_box h8).2, hx, rfl, h8, After.of h1 h2 h3 h4 h5⟩
  · rintro e w' ⟨W, x, y, rfl, ⟨rfl, rfl, h8, h⟩, hw⟩
    exact ⟨rfl, h.eqw hw h8⟩

theorem Good.kept (hG : Good s A k) {s' : HS} {G' : Areas} {φ' : Nat → Int} (hi : InvG s' G' φ' A) (hk : Kept2 A s s') : Good s' A k :=
  hG.keeps hi hk.same.big hk.same.words hk.copied rfl hG.nsl (Nat.le_refl _) hk.same.bound hk.same.room hk.same.objs

theorem Live_yes (hr : HRep w hb L s) (hG : Good s A k) :
    Calls Try.prog 12 #[.pointer (some ⟨hb, 0, none⟩)] w fun e w' => e = .returned (.int .i64 A.live) ∧ After hb L s w A k w' := by
  obtain ⟨b1, b2, b3, b4, b5, b6⟩ := hG.bounds
  have hnsl := hG.nsl
  have hlt := hr.lt (.inl rfl)
  refine (Live_w (R := fun x y w' => y = (A.live : Int) ∧ w'.heap[w.heap.size + 1]? = some (.cells #[.int .i64 A.live] 3 (0, 0)) ∧ After hb L s w A k w') ((methX (rx := w.heap.size + 1) (os := [.cells #[.pointer (some ⟨hb, 0, none⟩)] 23, .cells #[.int .i64 0] 3]) hr hG (by simp) (enters_of Try.func38 (by kernel_rfl) rfl)
    (R := fun x s1 W1 => Good s1 A k ∧ s1.room = s.room ∧ s1.young = s.young ∧ W1.heap[w.heap.size + 1]? = some (.cells #[.int .i64 A.live] 3 (0, 0))) ?_).mono ?_)).mono ?_
  · intro Wc hf hcs hrc
    have x0 := box_at hf 0 rfl
    have x3 : Wc.heap[w.heap.size + 1]? = some (.cells #[.int .i64 0] 3 (0, 0)) := box_at hf 1 rfl
    obtain ⟨G, φ, hi⟩ := hG.inv
    have hnx : ¬ L.foot hb (w.heap.size + 1) := foot_lt hr (by omega)
    refine (live_clo hrc (cell_of_box x0).1 (by omega) hi hG.sized x3 hnx).mono ?_
    rintro e W1 ⟨rfl, W, L', s', G', φ', rfl, hw⟩
    have hl3 := (Array.getElem?_eq_some_iff.1 x3).1
    have hx2 : W.heap[w.heap.size + 1]? = some (.cells #[.int .i64 0] 3 (0, 0)) := by rw [hw.fr.block _ hl3 hnx]; exact x3
    have hfoot : ∀ j, L'.foot hb j → L.foot hb j := by
      intro j hj
      rcases hj with rfl | ⟨i, hi', hj⟩
      · exact .inl rfl
      · exact .inr ⟨i, hi', by rw [← (hw.base i hi').own]; exact hj⟩
    have fs := fr_setCell W (w.heap.size + 1) 0 (.int .i64 A.live)
    refine ⟨L', s', none, .inl ⟨rfl, rfl⟩, hw.rep.of_fr fs (fun j hj e => hnx (e ▸ hfoot j hj)), ⟨?_, fun j hj => .inl (hfoot j hj)⟩, by rw [hw.copied]; exact ⟨Int.le_refl _, by omega⟩, hG.kept hw.inv hw.kept, hw.same.room, hw.same.young, by rw [setCell_block W _ 0 _ hx2]; rfl⟩
    exact (hw.fr.mono (B' := fun k => L.foot hb k ∨ k = w.heap.size + 1) fun _ h => .inl h).trans fs fun j hj => .inl (.inr hj)
  · rintro e w' ⟨x, W1, rfl, L1, s1, h1, h2, ⟨h3, h4, h5, h6⟩, h7⟩
    have hl6 := (Array.getElem?_eq_some_iff.1 h6).1
    have h8 : w'.heap[w.heap.size + 1]? = some (.cells #[.int .i64 A.live] 3 (0, 0)) := by rw [h7 _ hl6 (by omega) (by simp)]; exact h6
    exact ⟨x, _, rfl, (cell_of_box h8).1, (cell_of_box h8).2, rfl, h8, After.of h1 h2 h3 h4 h5⟩
  · rintro e w' ⟨W, x, y, rfl, ⟨rfl, h8, h⟩, hw⟩
    exact ⟨rfl, h.eqw hw h8⟩
end
end Go.Proofs.Ythjokcjdphempaa
