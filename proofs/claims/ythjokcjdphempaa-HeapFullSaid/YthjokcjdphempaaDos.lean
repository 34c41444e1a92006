/- The methods of a heap over a heap in memory, whatever they are given; any act. -/
import Derived.Test.YthjokcjdphempaaMka
import Derived.Test.YthjokcjdphempaaClox
import Derived.Test.YthjokcjdphempaaCol
namespace Go.Proofs.Ythjokcjdphempaa
open Go.RowKit Hp Go.Shelf

/-- What the closure of an act leaves. -/
def Rc (q : Prop) (sz : Nat) (A : AHeap) (k : Nat) (s : HS) (x : Int) (s1 : HS) : Prop := (∃ A', Good s1 A' (k + 1)) ∧ Ran q sz x A s (paused s s1)

/-- What an act leaves. -/
def Did (q : Prop) (sz : Nat) (hb : Nat) (L : Lay) (s : HS) (w : World) (A : AHeap) (k : Nat) (x : Int) (w' : World) : Prop :=
  ∃ L' s' A', HRep w' hb L' s' ∧ Good s' A' (k + 1) ∧ Left hb L L' w w' ∧ Ran q sz x A s s'

/-- The end of a closure. -/
def Cl (q : Prop) (sz : Nat) (hb : Nat) (L : Lay) (s : HS) (Wc : World) (A : AHeap) (k : Nat) (e : Ending) (W1 : World) : Prop :=
  ∃ L1 s1 x, ((x = none ∧ e = .returned (.tuple #[])) ∨ ∃ v, x = some v ∧ e = .panicked (trouble v)) ∧ HRep W1 hb L1 s1 ∧ Left hb L L1 Wc W1 ∧ (s.copied ≤ s1.copied ∧ s1.copied ≤ 1000000000000) ∧ Rc q sz A k s (x.getD 0) s1

/-- The end of a closure with a box for its result. -/
def ClX (X : Nat → Prop) (T : World → Prop) (hb : Nat) (L : Lay) (s : HS) (Wc : World) (A : AHeap) (k : Nat) (e : Ending) (W1 : World) : Prop :=
  ∃ L1 s1 x, ((x = none ∧ e = .returned (.tuple #[])) ∨ ∃ v, x = some v ∧ e = .panicked (trouble v)) ∧ HRep W1 hb L1 s1 ∧ LeftX X hb L L1 Wc W1 ∧ (s.copied ≤ s1.copied ∧ s1.copied ≤ 1000000000000) ∧ Rc True 0 A k s (x.getD 0) s1 ∧ T W1

section
variable {hb : Nat} {L : Lay} {s : HS} {w Wc : World} {A : AHeap} {k : Nat} {q : Prop} {sz : Nat}

theorem Good.y0 (hG : Good s A k) : 0 ≤ s.young := by
  obtain ⟨G, φ, hi⟩ := hG.inv
  have := hi.young1
  omega

theorem Good.sl (hG : Good s A k) : s.slots.length ≤ 4096 := by
  have h1 := hG.nsl
  have h2 := hG.bounds.2.2.2.2.2
  omega

theorem Good.rc (hG : Good s A k) {s1 : HS} {A' : AHeap} {x : Int} (h : Good s1 A' k) (hk : k + 1 ≤ 100000) (hd : Idle s s1) : Rc q sz A k s x s1 := ⟨⟨A', h.le (by omega) hk⟩, hd.ran hG.y0⟩

theorem left_eqw {o : Obj} {W1 : World} (h : Eqw (Wc.alloc o) W1) : Left hb L L Wc W1 := (alloc_left Wc o).eqw h

/-- It fails: nothing has been done. -/
theorem cl_no (hG : Good s A k) (hk : k + 1 ≤ 100000) (hr : HRep Wc hb L s) {e : Ending} {v : Int} {W1 : World} (he : e = .panicked (trouble v)) (hf : Fr (fun _ => False) Wc W1) : Cl q sz hb L s Wc A k e W1 := by
  obtain ⟨b1, b2, b3, b4, b5, b6⟩ := hG.bounds
  exact ⟨L, s, some v, .inr ⟨v, rfl, he⟩, hr.of_fr hf fun _ _ h => h, ⟨hf.mono fun _ h => h.elim, fun _ h => .inl h⟩, ⟨Int.le_refl _, by omega⟩, hG.rc hG hk (Idle.refl s)⟩

theorem fr_eqw {o : Obj} {W1 : World} (h : Eqw (Wc.alloc o) W1) : Fr (fun _ => False) Wc W1 := (fr_alloc1 Wc o).trans (h.fr (fun _ => False)) fun _ h => h.elim

/-- It has been done, and the counts are as they were. -/
theorem cl_yes (hG : Good s A k) (hk : k + 1 ≤ 100000) {e : Ending} {W1 : World} {L1 : Lay} {s1 : HS} {A' : AHeap} (he : e = .returned (.tuple #[])) (h1 : HRep W1 hb L1 s1) (h2 : Left hb L L1 Wc W1) (h3 : Good s1 A' k) (h4 : Idle s s1) : Cl q sz hb L s Wc A k e W1 := by
  obtain ⟨b1, b2, b3, b4, b5, b6⟩ := hG.bounds
  exact ⟨L1, s1, none, .inl ⟨rfl, he⟩, h1, h2, by rw [h4.copied]; exact ⟨Int.le_refl _, by omega⟩, hG.rc h3 hk h4⟩

theorem clx_no {X : Nat → Prop} {T : World → Prop} (hG : Good s A k) (hk : k + 1 ≤ 100000) (hr : HRep Wc hb L s) {e : Ending} {v : Int} {W1 : World} (he : e = .panicked (trouble v)) (hf : Fr (fun _ => False) Wc W1) (hT : T W1) : ClX X T hb L s Wc A k e W1 := by
  obtain ⟨b1, b2, b3, b4, b5, b6⟩ := hG.bounds
  exact ⟨L, s, some v, .inr ⟨v, rfl, he⟩, hr.of_fr hf fun _ _ h => h, ⟨hf.mono fun _ h => h.elim, fun _ h => .inl h⟩, ⟨Int.le_refl _, by omega⟩, hG.rc hG hk (Idle.refl s), hT⟩

theorem did_of {x : Int} {L1 : Lay} {s1 : HS} {w' : World} (h1 : HRep w' hb L1 { s1 with worst := worse s1.worst (s1.copied - s.copied) }) (h2 : Left hb L L1 w w') (h3 : Rc q sz A k s x s1) : Did q sz hb L s w A k x w' := by
  obtain ⟨⟨A', h4⟩, h5⟩ := h3
  exact ⟨L1, _, A', h1, h4.worst _, h2, h5⟩

/-- A method whose closure hands nothing back. -/
theorem meth_did {g : Nat} {lb : Array Value} {os : List Obj} (hr : HRep w hb L s) (hG : Good s A k) (hg : ∀ args w, (callFunc g args).run Try.prog w = .ok (.enter g args) w)
    (H : ∀ Wc, Fr (fun _ => False) (allocs w os) Wc → HRep Wc hb L s → Calls Try.prog g lb Wc fun e W1 => Cl q sz hb L s Wc A k e W1) :
    Calls Try.prog 37 #[.pointer (some ⟨hb, 0, none⟩), .func (.func g) #[] lb] (allocs w os) fun e w' => ∃ x, e = .returned (.int .i64 x) ∧ Did q sz hb L s w A k x w' := by
  refine (meth0 (os := os) hr hG hg (R := Rc q sz A k s) fun Wc hf hrc => ?_).mono ?_
  · exact (H Wc hf hrc).mono fun _ _ h => h
  · rintro e w' ⟨x, rfl, L1, s1, h1, h2, h3⟩
    exact ⟨x, rfl, did_of h1 h2 h3⟩

theorem did_eqw {x : Int} {w' w'' : World} (h : Did q sz hb L s w A k x w') {rx : Nat} {v : Value} {t : TypeId} (hw : Eqw (w'.setCell ⟨rx, 0, none⟩ v) w'') (hx : w'.heap[rx]? = some (.cells #[v] t (0, 0))) : Did q sz hb L s w A k x w'' := by
  obtain ⟨L', s', A', h1, h2, h3, h4⟩ := h
  have hh : w''.heap = w'.heap := hw.1.trans (setCell_id hx)
  exact ⟨L', s', A', h1.of_heap hh, h2, ⟨⟨hw.2.1.trans h3.fr.os, hw.2.2.1.trans h3.fr.tape, hw.2.2.2.trans h3.fr.output, by rw [hh]; exact h3.fr.size, fun j hj hn => by rw [hh]; exact h3.fr.block j hj hn⟩, h3.foot⟩, h4⟩

/-- The number of a slot. -/
theorem slot_cases (hG : Good s A k) {i : Nat} (h : i < s.slots.length) : A.slots[i]? = some 0 ∨ ∃ m, A.slots[i]? = some (m + 1) := by
  have h6 := hG.bounds.2.2.2.2.2
  have e : A.slots[i]? = some A.slots[i] := List.getElem?_eq_getElem (by omega)
  rw [e]
  cases A.slots[i] with
  | zero => exact .inl rfl
  | succ m => exact .inr ⟨m, rfl⟩



set_option maxHeartbeats 1000000 in
theorem Clear_do (hr : HRep w hb L s) (hG : Good s A k) (hk : k + 1 ≤ 100000) {k1 : Int} :
    Calls Try.prog 34 #[.pointer (some ⟨hb, 0, none⟩), .int .i64 k1] w fun e w' => ∃ x, e = .returned (.int .i64 x) ∧ Did True 0 hb L s w A k x w' := by
  obtain ⟨b1, b2, b3, b4, b5, b6⟩ := hG.bounds
  have hsl := hG.sl
  obtain ⟨G, φ, hi⟩ := hG.inv
  refine Clear_w (R := fun x w' => Did True 0 hb L s w A k x w') (meth_did (os := [.cells #[.pointer (some ⟨hb, 0, none⟩)] 23, .cells #[.int .i64 k1] 3]) hr hG (enters_of Try.func74 (by kernel_rfl) rfl) fun Wc hf hrc => ?_)
  have x0 := box_at hf 0 rfl
  have x1 := box_at hf 1 rfl
  by_cases hin : inSlots s [k1] = true
  · obtain ⟨h0, h1⟩ := in_slots1.1 hin
    obtain ⟨i, rfl⟩ : ∃ i : Nat, k1 = i := ⟨k1.toNat, by omega⟩
    refine (clear_yes hrc (cell_of_box x0).1 (cell_of_box x1).1 (by omega) (by omega)).mono ?_
    rintro e W1 ⟨rfl, h2, h3⟩
    obtain ⟨hi', ht⟩ := hi.setSlot (i := i) (n := 0) (x := 0) (.inl rfl) (fun j h => by omega)
    exact cl_yes hG hk rfl h2 h3 (hG.keeps hi' rfl rfl rfl rfl (by simp [AHeap.setSlot]; omega) (live_le hi.rep.wf fun _ h => ⟨reach_setSlot (fun j h => by omega) h, rfl⟩) rfl rfl rfl) (.of (same_slots s _) rfl (fun _ => rfl) ht)
  · refine (clear_no hrc (cell_of_box x0).1 (cell_of_box x1).1 (by omega) (by simpa using hin)).mono ?_
    rintro e W1 ⟨rfl, rfl⟩
    exact cl_no hG hk hrc rfl (fr_alloc1 _ _)


set_option maxHeartbeats 1000000 in
theorem Copy_do (hr : HRep w hb L s) (hG : Good s A k) (hk : k + 1 ≤ 100000) {t f : Int} :
    Calls Try.prog 33 #[.pointer (some ⟨hb, 0, none⟩), .int .i64 t, .int .i64 f] w fun e w' => ∃ x, e = .returned (.int .i64 x) ∧ Did True 0 hb L s w A k x w' := by
  obtain ⟨b1, b2, b3, b4, b5, b6⟩ := hG.bounds
  have hsl := hG.sl
  obtain ⟨G, φ, hi⟩ := hG.inv
  refine Copy_w (R := fun x w' => Did True 0 hb L s w A k x w') (meth_did (os := [.cells #[.pointer (some ⟨hb, 0, none⟩)] 23, .cells #[.int .i64 t] 3, .cells #[.int .i64 f] 3]) hr hG (enters_of Try.func73 (by kernel_rfl) rfl) fun Wc hf hrc => ?_)
  have x0 := box_at hf 0 rfl
  have x1 := box_at hf 1 rfl
  have x2 := box_at hf 2 rfl
  have hnsl := hG.nsl
  by_cases hin : inSlots s [t, f] = true
  · obtain ⟨⟨h0, h1⟩, h2, h3⟩ := in_slots2.1 hin
    obtain ⟨i, rfl⟩ : ∃ i : Nat, t = i := ⟨t.toNat, by omega⟩
    obtain ⟨j, rfl⟩ : ∃ i : Nat, f = i := ⟨f.toNat, by omega⟩
    have hj : A.slots[j]? = some A.slots[j] := List.getElem?_eq_getElem (by omega)
    refine (copy_yes hrc (cell_of_box x0).1 (by omega) (cell_of_box x1).1 (cell_of_box x2).1 hi (by omega) hj).mono ?_
    rintro e W1 ⟨rfl, y, hy, h4, h5⟩
    have hnn : ∀ q, A.slots[j] = q + 1 → Hp.Reach A q := fun q e => .slot (List.mem_of_getElem? (by rw [hj, e]))
    obtain ⟨hi', ht⟩ := hi.setSlot (i := i) hy hnn
    exact cl_yes hG hk rfl h4 h5 (hG.keeps hi' rfl rfl rfl rfl (by simp [AHeap.setSlot]; omega) (live_le hi.rep.wf fun _ h => ⟨reach_setSlot hnn h, rfl⟩) rfl rfl rfl) (.of (same_slots s _) rfl (fun _ => rfl) ht)
  · refine (copy_no1 hrc (cell_of_box x0).1 (by omega) (cell_of_box x1).1 (cell_of_box x2).1 (by simpa using hin)).mono ?_
    rintro e W1 ⟨rfl, rfl⟩
    exact cl_no hG hk hrc rfl (fr_alloc1 _ _)


set_option maxHeartbeats 1000000 in
theorem Grow_do (hr : HRep w hb L s) (hG : Good s A k) (hk : k + 1 ≤ 100000) {n : Int} :
    Calls Try.prog 27 #[.pointer (some ⟨hb, 0, none⟩), .int .i64 n] w fun e w' => ∃ x, e = .returned (.int .i64 x) ∧ Did True 0 hb L s w A k x w' := by
  obtain ⟨b1, b2, b3, b4, b5, b6⟩ := hG.bounds
  have hsl := hG.sl
  obtain ⟨G, φ, hi⟩ := hG.inv
  refine Grow_w (R := fun x w' => Did True 0 hb L s w A k x w') (meth_did (os := [.cells #[.pointer (some ⟨hb, 0, none⟩)] 23, .cells #[.int .i64 n] 3]) hr hG (enters_of Try.func66 (by kernel_rfl) rfl) fun Wc hf hrc => ?_)
  have x0 := box_at hf 0 rfl
  have x1 := box_at hf 1 rfl
  have hnsl := hG.nsl
  by_cases h0 : n < 0
  · refine (grow_no1 (cell_of_box x1).1 h0).mono ?_
    rintro e W1 ⟨rfl, h⟩
    exact cl_no hG hk hrc rfl (h.fr _)
  · by_cases h1 : 4096 - (s.slots.length : Int) < n
    · refine (grow_no3 hrc (cell_of_box x0).1 (cell_of_box x1).1 (by omega) hsl h1).mono ?_
      rintro e W1 ⟨rfl, h⟩
      exact cl_no hG hk hrc rfl (h.fr _)
    · obtain ⟨m, rfl⟩ : ∃ i : Nat, n = i := ⟨n.toNat, by omega⟩
      refine (grow_clo hrc (cell_of_box x0).1 (cell_of_box x1).1 (foot_lt hr (by omega)) (foot_lt hr (by omega)) (by omega)).mono ?_
      rintro e W1 ⟨rfl, L1, h2, h3⟩
      obtain ⟨hi', ht⟩ := hi.grow m
      refine cl_yes hG hk rfl h2 h3 (hG.keeps hi' rfl rfl rfl rfl (by simp [AHeap.grow]; omega) (live_le hi.rep.wf fun j hj => ⟨reach_mono (A := A) (A' := A.grow m) (fun j hj => ?_) rfl hj, rfl⟩) rfl rfl rfl) (.of (same_slots s _) rfl (fun _ => rfl) ht)
      rcases List.mem_append.1 hj with h | h
      · exact h
      · have := (List.mem_replicate.1 h).2; omega


set_option maxHeartbeats 1000000 in
theorem Shrink_do (hr : HRep w hb L s) (hG : Good s A k) (hk : k + 1 ≤ 100000) {n : Int} :
    Calls Try.prog 24 #[.pointer (some ⟨hb, 0, none⟩), .int .i64 n] w fun e w' => ∃ x, e = .returned (.int .i64 x) ∧ Did True 0 hb L s w A k x w' := by
  obtain ⟨b1, b2, b3, b4, b5, b6⟩ := hG.bounds
  have hsl := hG.sl
  obtain ⟨G, φ, hi⟩ := hG.inv
  refine Shrink_w (R := fun x w' => Did True 0 hb L s w A k x w') (meth_did (os := [.cells #[.pointer (some ⟨hb, 0, none⟩)] 23, .cells #[.int .i64 n] 3]) hr hG (enters_of Try.func65 (by kernel_rfl) rfl) fun Wc hf hrc => ?_)
  have x0 := box_at hf 0 rfl
  have x1 := box_at hf 1 rfl
  have hnsl := hG.nsl
  by_cases h0 : n < 0 ∨ (s.slots.length : Int) < n
  · refine (shrink_no hrc (cell_of_box x0).1 (cell_of_box x1).1 hsl h0).mono ?_
    rintro e W1 ⟨rfl, h⟩
    exact cl_no hG hk hrc rfl (h.fr _)
  · obtain ⟨m, rfl⟩ : ∃ i : Nat, n = i := ⟨n.toNat, by omega⟩
    refine (shrink_yes hrc (cell_of_box x0).1 (cell_of_box x1).1 (foot_lt hr (by omega)) (foot_lt hr (by omega)) hsl (by omega)).mono ?_
    rintro e W1 ⟨rfl, L1, h2, h3⟩
    obtain ⟨hi', ht⟩ := hi.shrink m
    exact cl_yes hG hk rfl h2 h3 (hG.keeps hi' rfl rfl rfl rfl (by simp [AHeap.shrink]; omega) (live_le hi.rep.wf fun j hj => ⟨reach_mono (A := A) (A' := A.shrink m) (fun j hj => List.mem_of_mem_take hj) rfl hj, rfl⟩) rfl rfl rfl) (.of (same_slots s _) rfl (fun _ => rfl) ht)


set_option maxHeartbeats 1000000 in
theorem Get_do (hr : HRep w hb L s) (hG : Good s A k) (hk : k + 1 ≤ 100000) {t o r : Int} :
    Calls Try.prog 30 #[.pointer (some ⟨hb, 0, none⟩), .int .i64 t, .int .i64 o, .int .i64 r] w fun e w' => ∃ x, e = .returned (.int .i64 x) ∧ Did True 0 hb L s w A k x w' := by
  obtain ⟨b1, b2, b3, b4, b5, b6⟩ := hG.bounds
  have hsl := hG.sl
  obtain ⟨G, φ, hi⟩ := hG.inv
  refine Get_w (R := fun x w' => Did True 0 hb L s w A k x w') (meth_did (os := [.cells #[.pointer (some ⟨hb, 0, none⟩)] 23, .cells #[.int .i64 t] 3, .cells #[.int .i64 o] 3, .cells #[.int .i64 r] 3]) hr hG (enters_of Try.func70 (by kernel_rfl) rfl) fun Wc hf hrc => ?_)
  have x0 := box_at hf 0 rfl
  have x1 := box_at hf 1 rfl
  have x2 := box_at hf 2 rfl
  have x3 := box_at hf 3 rfl
  have hnsl := hG.nsl
  by_cases hin : inSlots s [t, o] = true
  · obtain ⟨⟨h0, h1⟩, h2, h3⟩ := in_slots2.1 hin
    obtain ⟨j, rfl⟩ : ∃ i : Nat, t = i := ⟨t.toNat, by omega⟩
    obtain ⟨i, rfl⟩ : ∃ i : Nat, o = i := ⟨o.toNat, by omega⟩
    rcases slot_cases hG (i := i) (by omega) with h | ⟨m, h⟩
    · refine (get_no5 hrc (cell_of_box x0).1 (by omega) (cell_of_box x1).1 (cell_of_box x2).1 hi hin h).mono ?_
      rintro e W1 ⟨rfl, rfl⟩
      exact cl_no hG hk hrc rfl (fr_alloc1 _ _)
    · by_cases hrr : r < 0 ∨ ((A.obj m).refs.length : Int) ≤ r
      · refine (get_no2 hrc (cell_of_box x0).1 (by omega) (cell_of_box x1).1 (cell_of_box x2).1 (cell_of_box x3).1 hi hG.sized (by omega) h hrr).mono ?_
        rintro e W1 ⟨rfl, hE⟩
        exact cl_no hG hk hrc rfl (fr_eqw hE)
      · obtain ⟨p, rfl⟩ : ∃ i : Nat, r = i := ⟨r.toNat, by omega⟩
        have hp : (A.obj m).refs[p]? = some (A.obj m).refs[p] := List.getElem?_eq_getElem (by omega)
        refine (get_yes hrc (cell_of_box x0).1 (by omega) (cell_of_box x1).1 (cell_of_box x2).1 (cell_of_box x3).1 hi hG.sized (by omega) h hp).mono ?_
        rintro e W1 ⟨rfl, y, hy, h4, h5⟩
        have hre : Hp.Reach A m := .slot (List.mem_of_getElem? h)
        have hnn : ∀ q, (A.obj m).refs[p] = q + 1 → Hp.Reach A q := fun q e => .ref hre (List.mem_of_getElem? (by rw [hp, e]))
        obtain ⟨hi', ht⟩ := hi.setSlot (i := j) hy hnn
        exact cl_yes hG hk rfl h4 h5 (hG.keeps hi' rfl rfl rfl rfl (by simp [AHeap.setSlot]; omega) (live_le hi.rep.wf fun _ h => ⟨reach_setSlot hnn h, rfl⟩) rfl rfl rfl) (.of (same_slots s _) rfl (fun _ => rfl) ht)
  · refine (get_no1 hrc (cell_of_box x0).1 (by omega) (cell_of_box x1).1 (cell_of_box x2).1 (by simpa using hin)).mono ?_
    rintro e W1 ⟨rfl, rfl⟩
    exact cl_no hG hk hrc rfl (fr_alloc1 _ _)


set_option maxHeartbeats 1000000 in
theorem Set_do (hr : HRep w hb L s) (hG : Good s A k) (hk : k + 1 ≤ 100000) {o r f : Int} :
    Calls Try.prog 28 #[.pointer (some ⟨hb, 0, none⟩), .int .i64 o, .int .i64 r, .int .i64 f] w fun e w' => ∃ x, e = .returned (.int .i64 x) ∧ Did True 0 hb L s w A k x w' := by
  obtain ⟨b1, b2, b3, b4, b5, b6⟩ := hG.bounds
  have hsl := hG.sl
  obtain ⟨G, φ, hi⟩ := hG.inv
  refine Set_w (R := fun x w' => Did True 0 hb L s w A k x w') (meth_did (os := [.cells #[.pointer (some ⟨hb, 0, none⟩)] 23, .cells #[.int .i64 o] 3, .cells #[.int .i64 r] 3, .cells #[.int .i64 f] 3]) hr hG (enters_of Try.func67 (by kernel_rfl) rfl) fun Wc hf hrc => ?_)
  have x0 := box_at hf 0 rfl
  have x1 := box_at hf 1 rfl
  have x2 := box_at hf 2 rfl
  have x3 := box_at hf 3 rfl
  have hnsl := hG.nsl
  by_cases hin : inSlots s [o, f] = true
  · obtain ⟨⟨h0, h1⟩, h2, h3⟩ := in_slots2.1 hin
    obtain ⟨i, rfl⟩ : ∃ i : Nat, o = i := ⟨o.toNat, by omega⟩
    obtain ⟨j, rfl⟩ : ∃ i : Nat, f = i := ⟨f.toNat, by omega⟩
    rcases slot_cases hG (i := i) (by omega) with h | ⟨m, h⟩
    · refine (set_no5 hrc (cell_of_box x0).1 (by omega) (cell_of_box x1).1 (cell_of_box x3).1 hi hin h).mono ?_
      rintro e W1 ⟨rfl, rfl⟩
      exact cl_no hG hk hrc rfl (fr_alloc1 _ _)
    · by_cases hrr : r < 0 ∨ ((A.obj m).refs.length : Int) ≤ r
      · refine (set_no2 hrc (cell_of_box x0).1 (by omega) (cell_of_box x1).1 (cell_of_box x3).1 (cell_of_box x2).1 hi hG.sized (by omega) h hrr).mono ?_
        rintro e W1 ⟨rfl, hE⟩
        exact cl_no hG hk hrc rfl (fr_eqw hE)
      · obtain ⟨p, rfl⟩ : ∃ i : Nat, r = i := ⟨r.toNat, by omega⟩
        have hj : A.slots[j]? = some A.slots[j] := List.getElem?_eq_getElem (by omega)
        refine (set_yes hrc (cell_of_box x0).1 (by omega) (cell_of_box x1).1 (cell_of_box x3).1 (cell_of_box x2).1 hi hG.sized hj h (by omega)).mono ?_
        rintro e W1 ⟨rfl, y, hy, h4, h5⟩
        have hre : Hp.Reach A m := .slot (List.mem_of_getElem? h)
        have hnn : ∀ q, A.slots[j] = q + 1 → Hp.Reach A q := fun q e => .slot (List.mem_of_getElem? (by rw [hj, e]))
        obtain ⟨G', hi', ht⟩ := hi.setRef hre (k := p) (by omega) hy hnn
        have hs := (same_setAr s (aOf (φ m)) ((s.ar (aOf (φ m))).set (pOf (φ m) + (p + 1)) y))
        have hml := hre.lt hi.rep.wf
        refine cl_yes hG hk rfl h4 h5 (hG.keeps hi' hs.1.big hs.1.words hs.2 (by simp [AHeap.setRef]) hG.nsl ?_ hs.1.bound hs.1.room hs.1.objs) (.of hs.1 hs.2 (len_setAr s _ _ (List.length_set ..)) ht)
        refine live_le hi.rep.wf fun q hq => ⟨reach_setRef hml hnn hq, ?_⟩
        rw [obj_setRef A m p _ q hml]
        split
        · rename_i e; subst e; simp [AObj.size]
        · rfl
  · refine (set_no1 hrc (cell_of_box x0).1 (by omega) (cell_of_box x1).1 (cell_of_box x3).1 (by simpa using hin)).mono ?_
    rintro e W1 ⟨rfl, rfl⟩
    exact cl_no hG hk hrc rfl (fr_alloc1 _ _)


set_option maxHeartbeats 1000000 in
theorem Store_do (hr : HRep w hb L s) (hG : Good s A k) (hk : k + 1 ≤ 100000) {o r v : Int} :
    Calls Try.prog 29 #[.pointer (some ⟨hb, 0, none⟩), .int .i64 o, .int .i64 r, .int .i64 v] w fun e w' => ∃ x, e = .returned (.int .i64 x) ∧ Did True 0 hb L s w A k x w' := by
  obtain ⟨b1, b2, b3, b4, b5, b6⟩ := hG.bounds
  have hsl := hG.sl
  obtain ⟨G, φ, hi⟩ := hG.inv
  refine Store_w (R := fun x w' => Did True 0 hb L s w A k x w') (meth_did (os := [.cells #[.pointer (some ⟨hb, 0, none⟩)] 23, .cells #[.int .i64 o] 3, .cells #[.int .i64 r] 3, .cells #[.int .i64 v] 3]) hr hG (enters_of Try.func68 (by kernel_rfl) rfl) fun Wc hf hrc => ?_)
  have x0 := box_at hf 0 rfl
  have x1 := box_at hf 1 rfl
  have x2 := box_at hf 2 rfl
  have x3 := box_at hf 3 rfl
  have hnsl := hG.nsl
  by_cases hin : inSlots s [o] = true
  · obtain ⟨h0, h1⟩ := in_slots1.1 hin
    obtain ⟨i, rfl⟩ : ∃ i : Nat, o = i := ⟨o.toNat, by omega⟩
    rcases slot_cases hG (i := i) (by omega) with h | ⟨m, h⟩
    · refine (store_no5 hrc (cell_of_box x0).1 (by omega) (cell_of_box x1).1 hi hin h).mono ?_
      rintro e W1 ⟨rfl, rfl⟩
      exact cl_no hG hk hrc rfl (fr_alloc1 _ _)
    · by_cases hrr : r < 0 ∨ ((A.obj m).raws.length : Int) ≤ r
      · refine (store_no2 hrc (cell_of_box x0).1 (by omega) (cell_of_box x1).1 (cell_of_box x3).1 (cell_of_box x2).1 hi hG.sized h hrr).mono ?_
        rintro e W1 ⟨rfl, hE⟩
        exact cl_no hG hk hrc rfl (fr_eqw hE)
      · obtain ⟨p, rfl⟩ : ∃ i : Nat, r = i := ⟨r.toNat, by omega⟩
        refine (store_yes hrc (cell_of_box x0).1 (by omega) (cell_of_box x1).1 (cell_of_box x3).1 (cell_of_box x2).1 hi hG.sized h (by omega)).mono ?_
        rintro e W1 ⟨rfl, h4, h5⟩
        have hre : Hp.Reach A m := .slot (List.mem_of_getElem? h)
        obtain ⟨G', hi', ht⟩ := hi.setRaw (v := v) hre (k := p) (by omega)
        have hs := (same_setAr s (aOf (φ m)) ((s.ar (aOf (φ m))).set (pOf (φ m) + (1 + (A.obj m).refs.length + p)) v))
        have hml := hre.lt hi.rep.wf
        refine cl_yes hG hk rfl h4 h5 (hG.keeps hi' hs.1.big hs.1.words hs.2 (by simp [AHeap.setRaw]) hG.nsl ?_ hs.1.bound hs.1.room hs.1.objs) (.of hs.1 hs.2 (len_setAr s _ _ (List.length_set ..)) ht)
        refine live_le hi.rep.wf fun q hq => ⟨(reach_setRaw hml).1 hq, ?_⟩
        rw [obj_setRaw A m p v q hml]
        split
        · rename_i e; subst e; simp [AObj.size]
        · rfl
  · refine (store_no1 hrc (cell_of_box x0).1 (by omega) (cell_of_box x1).1 (by simpa using hin)).mono ?_
    rintro e W1 ⟨rfl, rfl⟩
    exact cl_no hG hk hrc rfl (fr_alloc1 _ _)

end
end Go.Proofs.Ythjokcjdphempaa

namespace Go.Proofs.Ythjokcjdphempaa
open Go.RowKit Hp Go.Shelf

theorem setCell_self {w : World} {b : Nat} {v : Value} {t : TypeId} (h : w.heap[b]? = some (.cells #[v] t (0, 0))) : w.setCell ⟨b, 0, none⟩ v = w := by
  have := setCell_id h
  cases w
  simp only [World.setCell] at this ⊢
  split <;> simp_all

set_option maxRecDepth 100000 in
set_option maxHeartbeats 1000000 in
theorem Shape_w {hp : Option Addr} {n : Int} {w : World} {R : Int → Int → Int → Int → World → Prop}
    (H : Calls Try.prog 37 #[.pointer hp, .func (.func 54) #[] #[.pointer (some ⟨w.heap.size, 0, none⟩), .pointer (some ⟨w.heap.size + 1, 0, none⟩), .pointer (some ⟨w.heap.size + 1 + 1, 0, none⟩), .pointer (some ⟨w.heap.size + 1 + 1 + 1, 0, none⟩), .pointer (some ⟨w.heap.size + 1 + 1 + 1 + 1, 0, none⟩)]] (((((w.alloc (.cells #[.pointer hp] 23)).alloc (.cells #[.int .i64 n] 3)).alloc (.cells #[.int .i64 0] 3)).alloc (.cells #[.int .i64 0] 3)).alloc (.cells #[.int .i64 0] 3)) fun e w' => ∃ x a b c, e = .returned (.int .i64 x) ∧ w'.heap[w.heap.size + 1 + 1]? = some (.cells #[.int .i64 a] 3 (0, 0)) ∧ w'.heap[w.heap.size + 1 + 1 + 1]? = some (.cells #[.int .i64 b] 3 (0, 0)) ∧ w'.heap[w.heap.size + 1 + 1 + 1 + 1]? = some (.cells #[.int .i64 c] 3 (0, 0)) ∧ R x a b c w') :
    Calls Try.prog 17 #[.pointer hp, .int .i64 n] w fun e w' => ∃ W x a b c m, e = .returned (.tuple #[.int .i64 a, .int .i64 b, .int .i64 c, .int .i64 x]) ∧ R x a b c W ∧ w' = W.drewN m := by
  have hmf : ∀ (fn : Fn) (first cap : Array Value) (w : World), (Instr.makeFunc fn first cap).run Try.prog w = .ok (.func fn first cap) w := fun _ _ _ _ => rfl
  have HH := Lib.hid H
  clear H
  go_enter Try.func17, Try.ntmps17
  go_wp2_with (go_at_call 37; refine HH.out.mono ?_; rintro e w9 ⟨x, a, b, c, rfl, g2, g3, g4, hx⟩; have HX := Lib.hid (And.intro g2 (And.intro g3 (And.intro g4 hx))); clear g2 g3 g4 hx)
  obtain ⟨g2, g3, g4, hx⟩ := HX.out
  have s2 := setCell_self g2
  have s3 := setCell_self g3
  have s4 := setCell_self g4
  have c2 := (cell_of_box g2).1
  have c3 := (cell_of_box g3).1
  have c4 := (cell_of_box g4).1
  have z2 := (cell_of_box g2).2
  have z3 := (cell_of_box g3).2
  have z4 := (cell_of_box g4).2
  have HR := Lib.hid hx
  clear g2 g3 g4 hx HX HH
  go_region
  go_wp2
  refine ⟨rfl, .tuple #[.int .i64 a, .int .i64 b, .int .i64 c, .int .i64 x], ?_, w9, x, a, b, c, 1, rfl, HR.out, rfl⟩
  simp [results, Try.results17, go_sem, c2, c3, c4]

set_option maxRecDepth 100000 in
set_option maxHeartbeats 1000000 in
theorem Whole_w {hb : Nat} {w : World} {worst : Int} {R : Int → World → Prop} (d3 : w.cell? ⟨hb, 3, none⟩ = some (.int .i64 worst))
    (H : Calls Try.prog 37 #[.pointer (some ⟨hb, 0, none⟩), .func (.func 63) #[] #[.pointer (some ⟨w.heap.size, 0, none⟩)]] (w.alloc (.cells #[.pointer (some ⟨hb, 0, none⟩)] 23)) fun e w' => ∃ x, e = .returned (.int .i64 x) ∧ R x w')
    (hR : ∀ x W, R x W → W.cell? ⟨w.heap.size, 0, none⟩ = some (.pointer (some ⟨hb, 0, none⟩)) ∧ (∃ y, W.cell? ⟨hb, 3, none⟩ = some (.int .i64 y)) ∧ ∀ k, W.frozen? ⟨hb, k, none⟩ = false) (d0 : ∃ v, w.cell? ⟨hb, 0, none⟩ = some (.int .i64 v)) (hR0 : ∀ x W, R x W → ∃ v, W.cell? ⟨hb, 0, none⟩ = some (.int .i64 v)) :
    Calls Try.prog 23 #[.pointer (some ⟨hb, 0, none⟩)] w fun e w' => ∃ W x, e = .returned (.int .i64 x) ∧ R x W ∧ Eqw (W.setCell ⟨hb, 3, none⟩ (.int .i64 worst)) w' := by
  have hmf : ∀ (fn : Fn) (first cap : Array Value) (w : World), (Instr.makeFunc fn first cap).run Try.prog w = .ok (.func fn first cap) w := fun _ _ _ _ => rfl
  obtain ⟨v0, d0⟩ := d0
  have e3 : (w.alloc (.cells #[.pointer (some ⟨hb, 0, none⟩)] 23)).cell? ⟨hb, 3, none⟩ = some (.int .i64 worst) := alloc_cell d3 _
  have e0 : (w.alloc (.cells #[.pointer (some ⟨hb, 0, none⟩)] 23)).cell? ⟨hb, 0, none⟩ = some (.int .i64 v0) := alloc_cell d0 _
  have HH := Lib.hid H
  have HR := Lib.hid hR
  have HZ := Lib.hid hR0
  clear H hR hR0
  go_enter Try.func23, Try.ntmps23
  go_wp2_with (go_at_call 37; refine HH.out.mono ?_; rintro e w9 ⟨x, rfl, hx⟩; obtain ⟨cx, ⟨y, c3⟩, fz⟩ := HR.out _ _ hx; obtain ⟨v1, c0⟩ := HZ.out _ _ hx; have z3 := fz 3; have HX := Lib.hid hx; clear hx fz)
  go_ret
  exact ⟨w9, x, rfl, HX.out, rfl, rfl, rfl, rfl⟩

section
variable {hb : Nat} {L : Lay} {s : HS} {w Wc : World} {A : AHeap} {k : Nat} {q : Prop} {sz : Nat}

/-- The size of the object that Make is asked for, if that many words are allowed. -/
def askedOf (refs raws : Int) : Nat := if 0 ≤ refs ∧ 0 ≤ raws ∧ refs ≤ 4000 ∧ raws ≤ 4000 then (1 + refs + raws).toNat else 0

set_option maxHeartbeats 1000000 in
theorem Make_do (hr : HRep w hb L s) (hG : Good s A k) (hk : k + 1 ≤ 100000) {to tag refs raws : Int} :
    Calls Try.prog 14 #[.pointer (some ⟨hb, 0, none⟩), .int .i64 to, .int .i64 tag, .int .i64 refs, .int .i64 raws] w fun e w' => ∃ x, e = .returned (.int .i64 x) ∧ Did True (askedOf refs raws) hb L s w A k x w' := by
  obtain ⟨b1, b2, b3, b4, b5, b6⟩ := hG.bounds
  have hsl := hG.sl
  have hy0 := hG.y0
  refine Make_w (R := fun x w' => Did True (askedOf refs raws) hb L s w A k x w') (meth_did (os := [.cells #[.pointer (some ⟨hb, 0, none⟩)] 23, .cells #[.int .i64 to] 3, .cells #[.int .i64 tag] 3, .cells #[.int .i64 refs] 3, .cells #[.int .i64 raws] 3]) hr hG (enters_of Try.func49 (by kernel_rfl) rfl) fun Wc hf hrc => ?_)
  have x0 := box_at hf 0 rfl
  have x1 := box_at hf 1 rfl
  have x2 := box_at hf 2 rfl
  have x3 := box_at hf 3 rfl
  have x4 := box_at hf 4 rfl
  by_cases hin : inSlots s [to] = true
  · obtain ⟨h0, h1⟩ := in_slots1.1 hin
    obtain ⟨i, rfl⟩ : ∃ i : Nat, to = i := ⟨to.toNat, by omega⟩
    by_cases htag : tag < 0 ∨ 65535 < tag
    · refine (make_no2 hrc (by omega) (cell_of_box x0).1 (cell_of_box x1).1 (cell_of_box x2).1 (by omega) htag).mono ?_
      rintro e W1 ⟨rfl, rfl⟩
      exact cl_no hG hk hrc rfl (fr_alloc1 _ _)
    · by_cases hlim : refs < 0 ∨ 4000 < refs ∨ raws < 0 ∨ 4000 < raws
      · refine (make_no3 hrc (by omega) (cell_of_box x0).1 (cell_of_box x1).1 (cell_of_box x2).1 (cell_of_box x3).1 (cell_of_box x4).1 (by omega) ⟨by omega, by omega⟩ hlim).mono ?_
        rintro e W1 ⟨rfl, rfl⟩
        exact cl_no hG hk hrc rfl (fr_alloc1 _ _)
      · obtain ⟨tg, rfl⟩ : ∃ i : Nat, tag = i := ⟨tag.toNat, by omega⟩
        obtain ⟨nr, rfl⟩ : ∃ i : Nat, refs = i := ⟨refs.toNat, by omega⟩
        obtain ⟨nw, rfl⟩ : ∃ i : Nat, raws = i := ⟨raws.toNat, by omega⟩
        have hsz : askedOf (nr : Int) (nw : Int) = 1 + nr + nw := by unfold askedOf; rw [if_pos ⟨by omega, by omega, by omega, by omega⟩]; omega
        refine (make_cloA (to := i) (tag := tg) (refs := nr) (raws := nw) hrc hG hk (by omega) (by omega) (by omega) (by omega) (foot_lt hr (by omega)) (foot_lt hr (by omega)) (foot_lt hr (by omega)) (foot_lt hr (by omega)) (foot_lt hr (by omega)) (cell_of_box x0).1 (cell_of_box x1).1 (cell_of_box x2).1 (cell_of_box x3).1 (cell_of_box x4).1).mono ?_
        rintro e W1 ⟨L1, s1, h1, h2, h3, h4, h5, ⟨rfl, h6, h7, h8, h9, h10, h11, h12⟩ | ⟨rfl, h6, h7, h8⟩⟩
        · refine ⟨L1, s1, none, .inl ⟨rfl, rfl⟩, h1, h2, h3, ⟨_, h7⟩, ?_⟩
          rw [hsz]
          refine Ran.of h4 h5 h3.1 (.inr ⟨rfl, h8⟩) h9 (fun _ => h11) fun _ a b => ?_
          have := h12 a
          omega
        · exact ⟨L1, s1, some 11, .inr ⟨11, rfl, rfl⟩, h1, h2, h3, hG.rc h7 hk h8⟩
  · refine (make_no1 hrc (by omega) (cell_of_box x0).1 (cell_of_box x1).1 (by simpa using hin)).mono ?_
    rintro e W1 ⟨rfl, rfl⟩
    exact cl_no hG hk hrc rfl (fr_alloc1 _ _)

/-- A heap behind a collection. -/
theorem mid_good {L1 : Lay} {s1 : HS} {W : World} (hG : Good s A k) (hk : k + 1 ≤ 100000) (h : Mid hb A L s w L1 s1 W) : Good s1 A (k + 1) := by
  have h1 := h.big
  have h2 := h.words
  have h3 := h.copied
  have h4 := h.bound
  have h5 := h.room
  have h6 := h.objs
  have g1 := hG.big
  have g2 := hG.wc
  have g3 := hG.objs
  have g4 := hG.bnd
  have g5 := hG.bndr
  have g6 := hG.obj
  exact ⟨h.inv, by omega, by omega, by omega, hG.nsl, by omega, by omega, ⟨by omega, by omega⟩, hk⟩

theorem Good.wide (hG : Good s A k) : s.words + s.copied ≤ 40000000000 ∧ (∀ j, j < 3 → (s.ar j).length ≤ 50000000000) := by
  obtain ⟨G, φ, hi⟩ := hG.inv
  have h1 := hG.wc
  have h2 := hG.kb
  exact ⟨by omega, fun j hj => by have := hi.lens j hj; omega⟩

/-- What Step leaves. -/
def Stepped (n : Int) (hb : Nat) (L : Lay) (s : HS) (w : World) (A : AHeap) (k : Nat) (x : Int) (w' : World) : Prop :=
  ∃ L' s', HRep w' hb L' s' ∧ Good s' A (k + 1) ∧ Left hb L L' w w' ∧ Ran False 0 x A s s' ∧ s'.big = s.big ∧ ((n < 0 ∧ x = 1 ∧ s'.copied = s.copied) ∨ (0 ≤ n ∧ x = 0 ∧ s.copied ≤ s'.copied ∧ s'.copied ≤ s.copied + n + s.big))

set_option maxHeartbeats 1000000 in
theorem Step_any (hr : HRep w hb L s) (hG : Good s A k) (hk : k + 1 ≤ 100000) {n : Int} :
    Calls Try.prog 19 #[.pointer (some ⟨hb, 0, none⟩), .int .i64 n] w fun e w' => ∃ x, e = .returned (.int .i64 x) ∧ Stepped n hb L s w A k x w' := by
  obtain ⟨b1, b2, b3, b4, b5, b6⟩ := hG.bounds
  obtain ⟨wd1, wd2⟩ := hG.wide
  obtain ⟨G, φ, hi⟩ := hG.inv
  have hroom2 := hi.room2
  refine (Step_w (R := fun x w' => Stepped n hb L s w A k x w') ((meth0 (os := [.cells #[.pointer (some ⟨hb, 0, none⟩)] 23, .cells #[.int .i64 n] 3]) hr hG (enters_of Try.func57 (by kernel_rfl) rfl)
    (R := fun x s1 => Good s1 A (k + 1) ∧ Ran False 0 x A s (paused s s1) ∧ s1.big = s.big ∧ ((n < 0 ∧ x = 1 ∧ s1.copied = s.copied) ∨ (0 ≤ n ∧ x = 0 ∧ s.copied ≤ s1.copied ∧ s1.copied ≤ s.copied + n + s.big))) ?_).mono ?_)).mono ?_
  · intro Wc hf hrc
    have x0 := box_at hf 0 rfl
    have x1 := box_at hf 1 rfl
    by_cases h0 : n < 0
    · refine (step_no (cell_of_box x1).1 h0).mono ?_
      rintro e W1 ⟨rfl, hE⟩
      exact ⟨L, s, some 1, .inr ⟨1, rfl, rfl⟩, hrc.of_heap hE.1, ⟨(hE.fr _), fun _ h => .inl h⟩, ⟨Int.le_refl _, by omega⟩, hG.le (by omega) hk, (Idle.refl s).ran hG.y0, rfl, .inl ⟨h0, rfl, rfl⟩⟩
    · refine (step_yes hrc (cell_of_box x0).1 (cell_of_box x1).1 (foot_lt hr (by omega)) (foot_lt hr (by omega)) (by omega) hi hG.sized hG.big (by omega)).mono ?_
      rintro e W1 ⟨rfl, L1, s1, G1, φ1, c, hp⟩
      have hm := hp.mid hroom2
      have hc := hp.copied
      have hle := hp.le
      exact ⟨L1, s1, none, .inl ⟨rfl, rfl⟩, hp.rep, hp.left, ⟨by omega, by have := hm.copied; omega⟩, mid_good hG hk hm, Ran.of hm.room hm.young (by omega) (.inl hm.big) hp.same.worst (fun h => h.elim) (fun h => h.elim), hm.big, .inr ⟨by omega, rfl, by omega, by omega⟩⟩
  · rintro e w' ⟨x, rfl, L1, s1, h1, h2, h3, h4, h5, h6⟩
    exact ⟨x, rfl, L1, _, h1, h3.worst _, h2, h4, h5, h6⟩
  · rintro e w' ⟨x, rfl, h⟩
    exact ⟨x, rfl, h⟩

/-- What Minor leaves. -/
def MinoredM (hb : Nat) (L : Lay) (s : HS) (w : World) (A : AHeap) (k : Nat) (x : Int) (w' : World) : Prop :=
  x = 0 ∧ ∃ L' s', HRep w' hb L' s' ∧ Good s' A (k + 1) ∧ Left hb L L' w w' ∧ Ran True 0 x A s s' ∧ s'.ar 2 = []

set_option maxHeartbeats 1000000 in
theorem Minor_any (hr : HRep w hb L s) (hG : Good s A k) (hk : k + 1 ≤ 100000) :
    Calls Try.prog 22 #[.pointer (some ⟨hb, 0, none⟩)] w fun e w' => ∃ x, e = .returned (.int .i64 x) ∧ MinoredM hb L s w A k x w' := by
  obtain ⟨b1, b2, b3, b4, b5, b6⟩ := hG.bounds
  obtain ⟨wd1, wd2⟩ := hG.wide
  obtain ⟨G, φ, hi⟩ := hG.inv
  have hroom2 := hi.room2
  have hy2 := hi.young2
  have hyl := hi.ylen
  have hn := hi.rep.now
  have hbig := hG.big
  refine (Minor_w (R := fun x w' => MinoredM hb L s w A k x w') ((meth0 (os := [.cells #[.pointer (some ⟨hb, 0, none⟩)] 23]) hr hG (enters_of Try.func60 (by kernel_rfl) rfl)
    (R := fun x s1 => x = 0 ∧ Good s1 A (k + 1) ∧ Ran True 0 x A s (paused s s1) ∧ s1.ar 2 = []) ?_).mono ?_)).mono ?_
  · intro Wc hf hrc
    have x0 := box_at hf 0 rfl
    refine (minor_core2 (N := fun r W => ∃ L1 s1 G1 φ1, ∃ c : Nat, r = (c : Int) ∧ Minored hb A L s Wc W L1 s1 G1 φ1 c) (E := fun W => ∃ L2 s2, MidA hb A 0 L s Wc L2 s2 W ∧ s2.ar 2 = []) (cell_of_box x0).1 ?_ ?_ ?_ ?_).mono ?_
    · intro W hE
      refine (minor_any (hrc.of_heap hE.1) hi hG.sized (by omega)).mono ?_
      rintro e w' ⟨r, rfl, L1, s1, G1, φ1, c, rfl, hm⟩
      exact ⟨_, rfl, L1, s1, G1, φ1, c, rfl, { hm with left := hm.left.of_heap hE.1 hE.2.1 hE.2.2.1 hE.2.2.2 }⟩
    · rintro r W ⟨L1, s1, G1, φ1, c, rfl, hm⟩
      exact fr_cell hm.left.fr (cell_of_box x0).1 (foot_lt hr (by omega))
    · rintro r W ⟨L1, s1, G1, φ1, c, rfl, hm⟩
      have hmid := hm.mid (by omega) hn
      have hc := hm.copied
      have hle := hm.le
      have hsz1 : Sized s1 A := ⟨fun j hj => by have := hmid.lens j hj; have := wd2 j hj; have := hmid.copied; omega, hG.sized.count, hG.sized.nslots⟩
      refine (pay_any hm.rep hm.inv hsz1 (by rw [hmid.big]; omega) (by rw [hmid.words]; omega) ⟨by omega, by omega⟩).mono ?_
      rintro e w2 ⟨rfl, L2, s2, G2, φ2, c2, hp⟩
      have hp1 := hp.copied
      have hp2 := hp.room
      have hp3 := hp.young
      rw [hm.young] at hp3
      have hrm := hmid.room
      exact ⟨rfl, L2, s2, Mid.transA hm hmid hp (by omega) hyl, List.eq_nil_of_length_eq_zero hp3⟩
    · rintro W ⟨L2, s2, hm, _⟩
      exact fr_cell hm.mid.left.fr (cell_of_box x0).1 (foot_lt hr (by omega))
    · rintro e W1 ⟨rfl, L2, s2, hm, h2⟩
      have h3 := hm.mid.copied
      refine ⟨L2, s2, none, .inl ⟨rfl, rfl⟩, hm.mid.rep, hm.mid.left, ⟨h3.1, by omega⟩, rfl, mid_good hG hk hm.mid, Ran.of hm.mid.room hm.mid.young h3.1 (.inl hm.mid.big) hm.worst (fun _ => hm.cost) (fun _ a b => ?_), h2⟩
      have := hm.acc a
      rw [hm.mid.words]
      omega
  · rintro e w' ⟨x, rfl, L1, s1, h1, h2, h3, h4, h5, h6⟩
    exact ⟨x, rfl, h3, L1, _, h1, h4.worst _, h2, h5, h6⟩
  · rintro e w' ⟨x, rfl, h⟩
    exact ⟨x, rfl, h⟩

/-- What Whole leaves. -/
def WholeM (hb : Nat) (L : Lay) (s : HS) (w : World) (A : AHeap) (k : Nat) (x : Int) (w' : World) : Prop :=
  x = 0 ∧ ∃ L' s', HRep w' hb L' s' ∧ Good s' A (k + 1) ∧ Left hb L L' w w' ∧ Ran False 0 x A s s' ∧ s'.ar 2 = [] ∧ (s'.ar 0).length + (s'.ar 1).length = A.live

set_option maxHeartbeats 1000000 in
theorem Whole_any (hr : HRep w hb L s) (hG : Good s A k) (hk : k + 1 ≤ 100000) :
    Calls Try.prog 23 #[.pointer (some ⟨hb, 0, none⟩)] w fun e w' => ∃ x, e = .returned (.int .i64 x) ∧ WholeM hb L s w A k x w' := by
  obtain ⟨b1, b2, b3, b4, b5, b6⟩ := hG.bounds
  obtain ⟨wd1, wd2⟩ := hG.wide
  obtain ⟨G, φ, hi⟩ := hG.inv
  refine (Whole_w (R := fun x W => W.cell? ⟨w.heap.size, 0, none⟩ = some (.pointer (some ⟨hb, 0, none⟩)) ∧ x = 0 ∧ ∃ L1 s1, HRep W hb L1 s1 ∧ Left hb L L1 w W ∧ Good s1 A (k + 1) ∧ s1.room = s.room ∧ s1.young = s.young ∧ s.copied ≤ s1.copied ∧ s1.big = s.big ∧ s1.ar 2 = [] ∧ (s1.ar 0).length + (s1.ar 1).length = A.live) hr.c3 ?_ ?_ ⟨_, hr.c0⟩ ?_).mono ?_
  · refine (methX (rx := w.heap.size) (os := [.cells #[.pointer (some ⟨hb, 0, none⟩)] 23]) hr hG ⟨Nat.le_refl _, by simp⟩ (enters_of Try.func63 (by kernel_rfl) rfl)
      (R := fun x s1 W1 => W1.cell? ⟨w.heap.size, 0, none⟩ = some (.pointer (some ⟨hb, 0, none⟩)) ∧ x = 0 ∧ Good s1 A (k + 1) ∧ s1.room = s.room ∧ s1.young = s.young ∧ s.copied ≤ s1.copied ∧ s1.big = s.big ∧ s1.ar 2 = [] ∧ (s1.ar 0).length + (s1.ar 1).length = A.live) ?_).mono ?_
    · intro Wc hf hcs hrc
      have x0 := box_at hf 0 rfl
      refine (whole_clo hrc (cell_of_box x0).1 (foot_lt hr (by omega)) hi hG.sized wd2 hG.big (by omega)).mono ?_
      rintro e W1 ⟨rfl, L1, s1, hw⟩
      have h1 := hw.copied
      have h2 := hw.words
      have h3 := hw.room
      have h4 := hw.big
      have h5 := hw.bound
      have h6 := hw.objs
      have g2 := hG.wc
      have g3 := hG.objs
      have g6 := hG.obj
      have g7 := hG.big
      have g8 := hi.live
      exact ⟨L1, s1, none, .inl ⟨rfl, rfl⟩, hw.rep, hw.left.x _, ⟨h1.1, by omega⟩, fr_cell hw.left.fr (cell_of_box x0).1 (foot_lt hr (by omega)), rfl, ⟨hw.inv, by omega, by omega, by omega, hG.nsl, by omega, by omega, ⟨by omega, by omega⟩, hk⟩, h3, hw.young, h1.1, h4, hw.y, hw.old⟩
    · rintro e w' ⟨x, W1, rfl, L1, s1, h1, h2, ⟨hx, h3, h4, h5, h6, h7, h8, h9, h10⟩, h11⟩
      have hlx : w.heap.size < W1.heap.size := World.block_lt_of_cell? _ _ hx
      have hlt := hr.lt (.inl rfl)
      exact ⟨x, rfl, (cell_of_heap (a := ⟨w.heap.size, 0, none⟩) (h11 w.heap.size hlx (by omega) (by simp; omega))).trans hx, h3, L1, _, h1, h2, h4.worst _, h5, h6, h7, h8, h9, h10⟩
  · rintro x W ⟨h0, _, L1, s1, h1, _⟩
    exact ⟨h0, ⟨_, h1.c3⟩, h1.froz⟩
  · rintro x W ⟨h0, _, L1, s1, h1, _⟩
    exact ⟨_, h1.c0⟩
  · rintro e w' ⟨W, x, rfl, ⟨h0, rfl, L1, s1, h1, h2, h3, h4, h5, h6, h7, h8, h9⟩, hE⟩
    have r1 : HRep (W.setCell ⟨hb, 3, none⟩ (.int .i64 s.worst)) hb L1 { s1 with worst := s.worst } := h1.scalar 3 _ rfl (fun i _ => rfl)
    exact ⟨0, rfl, rfl, L1, _, r1.of_heap hE.1, h3.worst _, (h2.trans (left_setCell W hb L1 (.inl rfl) 3 _)).eqw hE, ⟨h4, h5, h6, .inl h7, fun h => h.elim, fun h => h.elim, fun h => h.elim⟩, h8, h9⟩
end
end Go.Proofs.Ythjokcjdphempaa

namespace Go.Proofs.Ythjokcjdphempaa
open Go.RowKit Hp Go.Shelf

section
variable {hb : Nat} {L : Lay} {s : HS} {w Wc : World} {A : AHeap} {k : Nat} {q : Prop} {sz : Nat}

/-- A method whose closure lays its result in a box. -/
theorem methx_did {α : Type} {mk : α → Value} {t : TypeId} {g rx : Nat} {lb : Array Value} {os : List Obj} (hr : HRep w hb L s) (hG : Good s A k) (hrx : w.heap.size ≤ rx ∧ rx < w.heap.size + os.length) (hg : ∀ args w, (callFunc g args).run Try.prog w = .ok (.enter g args) w)
    (H : ∀ Wc, Fr (fun _ => False) (allocs w os) Wc → HRep Wc hb L s → Calls Try.prog g lb Wc fun e W1 => ClX (fun j => j = rx) (fun W1 => ∃ y, W1.heap[rx]? = some (.cells #[mk y] t (0, 0))) hb L s Wc A k e W1) :
    Calls Try.prog 37 #[.pointer (some ⟨hb, 0, none⟩), .func (.func g) #[] lb] (allocs w os) fun e w' => ∃ x y, e = .returned (.int .i64 x) ∧ w'.cell? ⟨rx, 0, none⟩ = some (mk y) ∧ w'.frozen? ⟨rx, 0, none⟩ = false ∧ (w'.heap[rx]? = some (.cells #[mk y] t (0, 0)) ∧ Did True 0 hb L s w A k x w') := by
  have hlt := hr.lt (.inl rfl)
  refine (methX (rx := rx) (os := os) hr hG hrx hg (R := fun x s1 W1 => Rc True 0 A k s x s1 ∧ ∃ y, W1.heap[rx]? = some (.cells #[mk y] t (0, 0))) fun Wc hf _ hrc => ?_).mono ?_
  · exact (H Wc hf hrc).mono fun _ _ h => h
  · rintro e w' ⟨x, W1, rfl, L1, s1, h1, h2, ⟨h3, y, h6⟩, h7⟩
    have hl6 := (Array.getElem?_eq_some_iff.1 h6).1
    have h8 : w'.heap[rx]? = some (.cells #[mk y] t (0, 0)) := by rw [h7 _ hl6 (by omega) (by omega)]; exact h6
    exact ⟨x, y, rfl, (cell_of_box h8).1, (cell_of_box h8).2, h8, did_of h1 h2 h3⟩

theorem clx_box {o : Obj} {rx : Nat} {v v0 : Value} {t : TypeId} {T : World → Prop} {W1 : World} {e : Ending} (hG : Good s A k) (hk : k + 1 ≤ 100000) (hrc : HRep Wc hb L s) (hrx : Wc.heap[rx]? = some (.cells #[v0] t (0, 0))) (hnf : ¬ L.foot hb rx) (he : e = .returned (.tuple #[])) (hw : Eqw ((Wc.alloc o).setCell ⟨rx, 0, none⟩ v) W1)
    (hT : W1.heap[rx]? = some (.cells #[v] t (0, 0)) → T W1) : ClX (fun j => j = rx) T hb L s Wc A k e W1 := by
  obtain ⟨b1, b2, b3, b4, b5, b6⟩ := hG.bounds
  obtain ⟨q1, q2, q3⟩ := boxed_result hrc hrx hnf hw
  exact ⟨L, s, none, .inl ⟨rfl, he⟩, q1, q2, ⟨Int.le_refl _, by omega⟩, hG.rc hG hk (Idle.refl s), hT q3⟩

theorem box_keep {rx : Nat} {o : Obj} {W1 : World} (hrx : Wc.heap[rx]? = some o) (hf : Fr (fun _ => False) Wc W1) : W1.heap[rx]? = some o := by
  rw [hf.block _ (Array.getElem?_eq_some_iff.1 hrx).1 id]; exact hrx

set_option maxHeartbeats 1000000 in
theorem Load_do (hr : HRep w hb L s) (hG : Good s A k) (hk : k + 1 ≤ 100000) {o r : Int} :
    Calls Try.prog 32 #[.pointer (some ⟨hb, 0, none⟩), .int .i64 o, .int .i64 r] w fun e w' => ∃ x y, e = .returned (.tuple #[.int .i64 y, .int .i64 x]) ∧ Did True 0 hb L s w A k x w' := by
  have hsl := hG.sl
  obtain ⟨G, φ, hi⟩ := hG.inv
  refine (Load_w (R := fun x y w' => w'.heap[w.heap.size + 1 + 1 + 1]? = some (.cells #[.int .i64 y] 3 (0, 0)) ∧ Did True 0 hb L s w A k x w') (methx_did (mk := fun y : Int => .int .i64 y) (rx := w.heap.size + 1 + 1 + 1) (os := [.cells #[.pointer (some ⟨hb, 0, none⟩)] 23, .cells #[.int .i64 o] 3, .cells #[.int .i64 r] 3, .cells #[.int .i64 0] 3]) hr hG (by simp; omega) (enters_of Try.func72 (by kernel_rfl) rfl) fun Wc hf hrc => ?_)).mono ?_
  · have x0 := box_at hf 0 rfl
    have x1 := box_at hf 1 rfl
    have x2 := box_at hf 2 rfl
    have x3 : Wc.heap[w.heap.size + 1 + 1 + 1]? = some (.cells #[.int .i64 0] 3 (0, 0)) := box_at hf 3 rfl
    by_cases hin : inSlots s [o] = true
    · obtain ⟨h0, h1⟩ := in_slots1.1 hin
      obtain ⟨i, rfl⟩ : ∃ i : Nat, o = i := ⟨o.toNat, by omega⟩
      rcases slot_cases hG (i := i) (by omega) with h | ⟨m, h⟩
      · refine (load_no5 hrc (cell_of_box x0).1 (by omega) (cell_of_box x1).1 hi hin h).mono ?_
        rintro e W1 ⟨rfl, rfl⟩
        exact clx_no hG hk hrc rfl (fr_alloc1 _ _) ⟨0, box_keep x3 (fr_alloc1 _ _)⟩
      · by_cases hrr : r < 0 ∨ ((A.obj m).raws.length : Int) ≤ r
        · refine (load_no2 hrc (cell_of_box x0).1 (by omega) (cell_of_box x1).1 (cell_of_box x2).1 hi hG.sized h hrr).mono ?_
          rintro e W1 ⟨rfl, hE⟩
          exact clx_no hG hk hrc rfl (fr_eqw hE) ⟨0, box_keep x3 (fr_eqw hE)⟩
        · obtain ⟨p, rfl⟩ : ∃ i : Nat, r = i := ⟨r.toNat, by omega⟩
          have hp : (A.obj m).raws[p]? = some (A.obj m).raws[p] := List.getElem?_eq_getElem (by omega)
          refine (load_yes hrc (cell_of_box x0).1 (by omega) (cell_of_box x1).1 (cell_of_box x2).1 hi hG.sized h hp x3).mono ?_
          rintro e W1 ⟨rfl, hw⟩
          exact clx_box hG hk hrc x3 (foot_lt hr (by omega)) rfl hw fun h => ⟨_, h⟩
    · refine (load_no1 hrc (cell_of_box x0).1 (by omega) (cell_of_box x1).1 (by simpa using hin)).mono ?_
      rintro e W1 ⟨rfl, rfl⟩
      exact clx_no hG hk hrc rfl (fr_alloc1 _ _) ⟨0, box_keep x3 (fr_alloc1 _ _)⟩
  · rintro e w' ⟨W, x, y, rfl, ⟨h8, h⟩, hw⟩
    exact ⟨x, y, rfl, did_eqw h hw h8⟩

set_option maxHeartbeats 1000000 in
theorem Empty_do (hr : HRep w hb L s) (hG : Good s A k) (hk : k + 1 ≤ 100000) {o : Int} :
    Calls Try.prog 35 #[.pointer (some ⟨hb, 0, none⟩), .int .i64 o] w fun e w' => ∃ x y, e = .returned (.tuple #[.bool y, .int .i64 x]) ∧ Did True 0 hb L s w A k x w' := by
  have hsl := hG.sl
  refine (Empty_w (R := fun x y w' => w'.heap[w.heap.size + 1 + 1]? = some (.cells #[.bool y] 4 (0, 0)) ∧ Did True 0 hb L s w A k x w') (methx_did (mk := fun y : Bool => .bool y) (rx := w.heap.size + 1 + 1) (os := [.cells #[.pointer (some ⟨hb, 0, none⟩)] 23, .cells #[.int .i64 o] 3, .cells #[.bool false] 4]) hr hG (by simp; omega) (enters_of Try.func75 (by kernel_rfl) rfl) fun Wc hf hrc => ?_)).mono ?_
  · have x0 := box_at hf 0 rfl
    have x1 := box_at hf 1 rfl
    have x3 : Wc.heap[w.heap.size + 1 + 1]? = some (.cells #[.bool false] 4 (0, 0)) := box_at hf 2 rfl
    by_cases hin : inSlots s [o] = true
    · obtain ⟨h0, h1⟩ := in_slots1.1 hin
      obtain ⟨i, rfl⟩ : ∃ i : Nat, o = i := ⟨o.toNat, by omega⟩
      refine (empty_yes hrc (cell_of_box x0).1 (by omega) (cell_of_box x1).1 (by omega) x3).mono ?_
      rintro e W1 ⟨rfl, bv, hw⟩
      exact clx_box hG hk hrc x3 (foot_lt hr (by omega)) rfl hw fun h => ⟨_, h⟩
    · refine (empty_no1 hrc (cell_of_box x0).1 (by omega) (cell_of_box x1).1 (by simpa using hin)).mono ?_
      rintro e W1 ⟨rfl, rfl⟩
      exact clx_no hG hk hrc rfl (fr_alloc1 _ _) ⟨false, box_keep x3 (fr_alloc1 _ _)⟩
  · rintro e w' ⟨W, x, y, rfl, ⟨h8, h⟩, hw⟩
    exact ⟨x, y, rfl, did_eqw h hw h8⟩

set_option maxHeartbeats 1000000 in
theorem Alike_do (hr : HRep w hb L s) (hG : Good s A k) (hk : k + 1 ≤ 100000) {a b : Int} :
    Calls Try.prog 31 #[.pointer (some ⟨hb, 0, none⟩), .int .i64 a, .int .i64 b] w fun e w' => ∃ x y, e = .returned (.tuple #[.bool y, .int .i64 x]) ∧ Did True 0 hb L s w A k x w' := by
  have hsl := hG.sl
  have h6 := hG.bounds.2.2.2.2.2
  obtain ⟨G, φ, hi⟩ := hG.inv
  refine (Alike_w (R := fun x y w' => w'.heap[w.heap.size + 1 + 1 + 1]? = some (.cells #[.bool y] 4 (0, 0)) ∧ Did True 0 hb L s w A k x w') (methx_did (mk := fun y : Bool => .bool y) (rx := w.heap.size + 1 + 1 + 1) (os := [.cells #[.pointer (some ⟨hb, 0, none⟩)] 23, .cells #[.int .i64 a] 3, .cells #[.int .i64 b] 3, .cells #[.bool false] 4]) hr hG (by simp; omega) (enters_of Try.func71 (by kernel_rfl) rfl) fun Wc hf hrc => ?_)).mono ?_
  · have x0 := box_at hf 0 rfl
    have x1 := box_at hf 1 rfl
    have x2 := box_at hf 2 rfl
    have x3 : Wc.heap[w.heap.size + 1 + 1 + 1]? = some (.cells #[.bool false] 4 (0, 0)) := box_at hf 3 rfl
    by_cases hin : inSlots s [a, b] = true
    · obtain ⟨⟨h0, h1⟩, h2, h3⟩ := in_slots2.1 hin
      obtain ⟨i, rfl⟩ : ∃ i : Nat, a = i := ⟨a.toNat, by omega⟩
      obtain ⟨j, rfl⟩ : ∃ i : Nat, b = i := ⟨b.toNat, by omega⟩
      have e1 : A.slots[i]? = some A.slots[i] := List.getElem?_eq_getElem (by omega)
      have e2 : A.slots[j]? = some A.slots[j] := List.getElem?_eq_getElem (by omega)
      refine (alike_yes hrc (cell_of_box x0).1 (by omega) (cell_of_box x1).1 (cell_of_box x2).1 hi hG.sized e1 e2 x3).mono ?_
      rintro e W1 ⟨rfl, hw⟩
      exact clx_box hG hk hrc x3 (foot_lt hr (by omega)) rfl hw fun h => ⟨_, h⟩
    · refine (alike_no1 hrc (cell_of_box x0).1 (by omega) (cell_of_box x1).1 (cell_of_box x2).1 (by simpa using hin)).mono ?_
      rintro e W1 ⟨rfl, rfl⟩
      exact clx_no hG hk hrc rfl (fr_alloc1 _ _) ⟨false, box_keep x3 (fr_alloc1 _ _)⟩
  · rintro e w' ⟨W, x, y, rfl, ⟨h8, h⟩, hw⟩
    exact ⟨x, y, rfl, did_eqw h hw h8⟩

/-- What Shape leaves, and what it hands back. -/
def Shaped (n : Int) (hb : Nat) (L : Lay) (s : HS) (w : World) (A : AHeap) (k : Nat) (x a b c : Int) (w' : World) : Prop :=
  Did True 0 hb L s w A k x w' ∧ ∀ (i m : Nat), n = i → A.slots[i]? = some (m + 1) → x = 0 ∧ a = (A.obj m).tag ∧ b = (A.obj m).refs.length ∧ c = (A.obj m).raws.length ∧ ∃ L' s', HRep w' hb L' s' ∧ Good s' A k ∧ Left hb L L' w w' ∧ s'.room = s.room ∧ s'.young = s.young

/-- Three boxes. -/
def Boxes3 (W : World) (n : Nat) (a b c : Int) : Prop := W.heap[n + 1 + 1]? = some (.cells #[.int .i64 a] 3 (0, 0)) ∧ W.heap[n + 1 + 1 + 1]? = some (.cells #[.int .i64 b] 3 (0, 0)) ∧ W.heap[n + 1 + 1 + 1 + 1]? = some (.cells #[.int .i64 c] 3 (0, 0))

theorem Boxes3.keep {W W' : World} {n : Nat} {a b c : Int} (h : Boxes3 W n a b c) (hf : Fr (fun _ => False) W W') : Boxes3 W' n a b c := ⟨box_keep h.1 hf, box_keep h.2.1 hf, box_keep h.2.2 hf⟩

set_option maxHeartbeats 2000000 in
theorem Shape_any (hr : HRep w hb L s) (hG : Good s A k) (hk : k + 1 ≤ 100000) {n : Int} :
    Calls Try.prog 17 #[.pointer (some ⟨hb, 0, none⟩), .int .i64 n] w fun e w' => ∃ x a b c, e = .returned (.tuple #[.int .i64 a, .int .i64 b, .int .i64 c, .int .i64 x]) ∧ Shaped n hb L s w A k x a b c w' := by
  obtain ⟨b1, b2, b3, b4, b5, b6⟩ := hG.bounds
  have hsl := hG.sl
  have hlt := hr.lt (.inl rfl)
  obtain ⟨G, φ, hi⟩ := hG.inv
  obtain ⟨f0, f1, _⟩ := allocs_spec [.cells #[.pointer (some ⟨hb, 0, none⟩)] 23, .cells #[.int .i64 n] 3, .cells #[.int .i64 0] 3, .cells #[.int .i64 0] 3, .cells #[.int .i64 0] 3] w
  have hr0 := hr.of_fr f0 (fun _ _ h => h)
  have fc := called_fr hb s.copied (allocs w [.cells #[.pointer (some ⟨hb, 0, none⟩)] 23, .cells #[.int .i64 n] 3, .cells #[.int .i64 0] 3, .cells #[.int .i64 0] 3, .cells #[.int .i64 0] 3])
  simp only [List.length_cons, List.length_nil] at f1
  refine (Shape_w (R := fun x a b c w' => Shaped n hb L s w A k x a b c w') ?_).mono ?_
  · refine (call_any (w := allocs w [.cells #[.pointer (some ⟨hb, 0, none⟩)] 23, .cells #[.int .i64 n] 3, .cells #[.int .i64 0] 3, .cells #[.int .i64 0] 3, .cells #[.int .i64 0] 3]) hr0 b1 ⟨b2, by omega⟩ (X := fun j => j = w.heap.size + 1 + 1 ∨ j = w.heap.size + 1 + 1 + 1 ∨ j = w.heap.size + 1 + 1 + 1 + 1) (fun _ h => by omega) (enters_of Try.func54 (by kernel_rfl) rfl)
      (M := fun x L1 s1 W1 => s1 = s ∧ L1 = L ∧ ∃ a b c, Boxes3 W1 w.heap.size a b c ∧ ∀ (i m : Nat), n = i → A.slots[i]? = some (m + 1) → x.getD 0 = 0 ∧ a = (A.obj m).tag ∧ b = (A.obj m).refs.length ∧ c = (A.obj m).raws.length) ?_).mono ?_
    · obtain ⟨Wc, hWc⟩ : ∃ Wc, Wc = called hb s.copied (allocs w [.cells #[.pointer (some ⟨hb, 0, none⟩)] 23, .cells #[.int .i64 n] 3, .cells #[.int .i64 0] 3, .cells #[.int .i64 0] 3, .cells #[.int .i64 0] 3]) := ⟨_, rfl⟩
      rw [← hWc] at fc ⊢
      have hrc := hr0.of_fr fc (fun _ _ h => h)
      have x0 := box_at fc 0 rfl
      have x1 := box_at fc 1 rfl
      have x2 : Wc.heap[w.heap.size + 1 + 1]? = some (.cells #[.int .i64 0] 3 (0, 0)) := box_at fc 2 rfl
      have x3 : Wc.heap[w.heap.size + 1 + 1 + 1]? = some (.cells #[.int .i64 0] 3 (0, 0)) := box_at fc 3 rfl
      have x4 : Wc.heap[w.heap.size + 1 + 1 + 1 + 1]? = some (.cells #[.int .i64 0] 3 (0, 0)) := box_at fc 4 rfl
      have hno : ∀ (v : Int) (e : Ending) (W1 : World), e = .panicked (trouble v) → Fr (fun _ => False) Wc W1 → (∀ (i m : Nat), n = i → A.slots[i]? = some (m + 1) → False) →
          ∃ L1 s1 x, ((x = none ∧ e = .returned (.tuple #[])) ∨ ∃ v, x = some v ∧ e = .panicked (trouble v)) ∧ HRep W1 hb L1 s1 ∧ LeftX (fun j => j = w.heap.size + 1 + 1 ∨ j = w.heap.size + 1 + 1 + 1 ∨ j = w.heap.size + 1 + 1 + 1 + 1) hb L L1 Wc W1 ∧ (s.copied ≤ s1.copied ∧ s1.copied ≤ 1000000000000) ∧
            s1 = s ∧ L1 = L ∧ ∃ a b c, Boxes3 W1 w.heap.size a b c ∧ ∀ (i m : Nat), n = i → A.slots[i]? = some (m + 1) → x.getD 0 = 0 ∧ a = (A.obj m).tag ∧ b = (A.obj m).refs.length ∧ c = (A.obj m).raws.length := by
        intro v e W1 he hf hn
        exact ⟨L, s, some v, .inr ⟨v, rfl, he⟩, hrc.of_fr hf (fun _ _ h => h), ⟨hf.mono fun _ h => h.elim, fun _ h => .inl h⟩, ⟨Int.le_refl _, by omega⟩, rfl, rfl, 0, 0, 0, Boxes3.keep ⟨x2, x3, x4⟩ hf, fun i m h1 h2 => (hn i m h1 h2).elim⟩
      by_cases hin : inSlots s [n] = true
      · obtain ⟨h0, h1⟩ := in_slots1.1 hin
        obtain ⟨i, rfl⟩ : ∃ i : Nat, n = i := ⟨n.toNat, by omega⟩
        rcases slot_cases hG (i := i) (by omega) with h | ⟨m, h⟩
        · refine (shape_no5 hrc (cell_of_box x0).1 (by omega) (cell_of_box x1).1 hi hin h).mono ?_
          rintro e W1 ⟨rfl, rfl⟩
          exact hno 5 _ _ rfl (fr_alloc1 _ _) fun j m h1 h2 => by rw [← Int.natCast_inj.1 h1, h] at h2; cases h2
        · refine (shape_yes hrc (cell_of_box x0).1 (by omega) (cell_of_box x1).1 hi hG.sized h x2 x3 x4 (foot_lt hr (by omega)) (foot_lt hr (by omega)) (foot_lt hr (by omega)) (by omega) (by omega) (by omega)).mono ?_
          rintro e W1 ⟨rfl, g1, g2, g3, hf⟩
          refine ⟨L, s, none, .inl ⟨rfl, rfl⟩, hrc.of_fr hf (fun j hj hjx => by have := hr.lt hj; omega), ⟨hf.mono fun _ h => .inr h, fun _ h => .inl h⟩, ⟨Int.le_refl _, by omega⟩, rfl, rfl, _, _, _, ⟨g1, g2, g3⟩, fun j m' h1 h2 => ?_⟩
          rw [← Int.natCast_inj.1 h1, h] at h2
          cases h2
          exact ⟨rfl, rfl, rfl, rfl⟩
      · refine (shape_no1 hrc (cell_of_box x0).1 (by omega) (cell_of_box x1).1 (by simpa using hin)).mono ?_
        rintro e W1 ⟨rfl, rfl⟩
        refine hno 1 _ _ rfl (fr_alloc1 _ _) fun j m h1 h2 => hin ?_
        subst h1
        have := (List.getElem?_eq_some_iff.1 h2).1
        exact in_slots1.2 ⟨by omega, by omega⟩
    · rintro e w' ⟨W1, L1, s1, x, rfl, h1, h2, ⟨rfl, rfl, a, b, c, hB, hv⟩, h4⟩
      have g : ∀ j, w.heap.size + 1 < j → j < w.heap.size + 5 → j < W1.heap.size → w'.heap[j]? = W1.heap[j]? := fun j h1 h2 h3 => h4 j h3 (by omega) (by rw [f1]; omega)
      have l2 := (Array.getElem?_eq_some_iff.1 hB.1).1
      have l3 := (Array.getElem?_eq_some_iff.1 hB.2.1).1
      have l4 := (Array.getElem?_eq_some_iff.1 hB.2.2).1
      have hleft : Left hb L1 L1 w w' := by
        have hfr := f0.mono (B' := fun k => L1.foot hb k) fun _ h => h.elim
        exact ⟨hfr.trans h2.fr fun j hj => hj.elim .inl fun e => .inr (by omega), fun j hj => (h2.foot j hj).imp id fun h => by omega⟩
      refine ⟨_, a, b, c, rfl, by rw [g _ (by omega) (by omega) l2]; exact hB.1, by rw [g _ (by omega) (by omega) l3]; exact hB.2.1, by rw [g _ (by omega) (by omega) l4]; exact hB.2.2, did_of h1 hleft (hG.rc hG hk (Idle.refl s1)), fun i m e1 e2 => ?_⟩
      obtain ⟨v1, v2, v3, v4⟩ := hv i m e1 e2
      exact ⟨v1, v2, v3, v4, L1, _, h1, hG.worst _, hleft, rfl, rfl⟩
  · rintro e w' ⟨W, x, a, b, c, m, rfl, ⟨⟨L', s', A', h1, h2, h3, h4⟩, h5⟩, rfl⟩
    refine ⟨x, a, b, c, rfl, ⟨L', s', A', h1.of_heap rfl, h2, h3.drewN' m, h4⟩, fun i m' e1 e2 => ?_⟩
    obtain ⟨v1, v2, v3, v4, L2, s2, q1, q2, q3, q4, q5⟩ := h5 i m' e1 e2
    exact ⟨v1, v2, v3, v4, L2, s2, q1.of_heap rfl, q2, q3.drewN' m, q4, q5⟩
end
end Go.Proofs.Ythjokcjdphempaa

namespace Go.Proofs.Ythjokcjdphempaa
open Go.RowKit Hp Go.Shelf

theorem fresh_cells (w : World) (vs : Array Value) (t : TypeId) (k : Nat) {v : Value} (h : vs[k]? = some v) : (w.alloc (.cells vs t)).cell? ⟨w.heap.size, k, none⟩ = some v := by
  have hn := World.alloc_heap_new w (.cells vs t)
  simp only [World.cell?, hn, Option.isSome_none, Bool.false_eq_true, if_false]
  exact h

set_option maxRecDepth 100000 in
set_option maxHeartbeats 1000000 in
theorem only_r {x : Int} {w : World} : Calls Try.prog 25 #[.int .i64 x] w fun e w' => e = .returned (.agg #[.int .i64 0, .int .i64 0, .int .i64 0, .int .i64 x]) ∧ Fr (fun _ => False) w w' := by
  go_enter Try.func25, Try.ntmps25
  go_wp2
  have c := fresh_cells w #[.int .i64 0, .int .i64 0, .int .i64 0, .int .i64 x] 30
  have c0 := c 0 (v := .int .i64 0) rfl
  have c1 := c 1 (v := .int .i64 0) rfl
  have c2 := c 2 (v := .int .i64 0) rfl
  have c3 := c 3 (v := .int .i64 x) rfl
  clear c
  refine ⟨rfl, .agg #[.int .i64 0, .int .i64 0, .int .i64 0, .int .i64 x], ?_, rfl, fr_alloc1 _ _⟩
  simp [results, Try.results25, go_sem, c0, c1, c2, c3]

set_option maxRecDepth 100000 in
set_option maxHeartbeats 1000000 in
theorem truth_r {b : Bool} {w : World} : Calls Try.prog 36 #[.bool b] w fun e w' => e = .returned (.int .i64 (if b then 1 else 0)) ∧ w' = w := by
  cases b
  all_goals
    go_enter Try.func36, Try.ntmps36
    go_wp2
    go_ret
    exact ⟨rfl, rfl⟩

section
variable {hb : Nat} {L : Lay} {s : HS} {w : World} {A : AHeap} {k : Nat}

set_option maxRecDepth 100000 in
set_option maxHeartbeats 1000000 in
theorem Slots_any (hr : HRep w hb L s) : Calls Try.prog 15 #[.pointer (some ⟨hb, 0, none⟩)] w fun e w' => e = .returned (.int .i64 s.slots.length) ∧ w' = w := by
  obtain ⟨a, cap, e⟩ := hr.slots.shape
  have d1 := hr.c12
  rw [e] at d1
  have h0 := hr.c0
  clear hr e
  go_enter Try.func15, Try.ntmps15
  go_wp2
  go_ret
  exact ⟨rfl, rfl⟩

set_option maxRecDepth 100000 in
set_option maxHeartbeats 1000000 in
theorem Stat_any (hr : HRep w hb L s) : Calls Try.prog 18 #[.pointer (some ⟨hb, 0, none⟩)] w fun e w' => e = .returned (.agg #[.int .i64 s.objs, .int .i64 s.words, .int .i64 s.copied, .int .i64 s.worst, .int .i64 s.minors, .int .i64 s.majors]) ∧ Fr (fun _ => False) w w' := by
  have hl := hr.lt (.inl rfl)
  have d : ∀ k v, w.cell? ⟨hb, k, none⟩ = some v → (w.alloc (.cells #[.int .i64 0, .int .i64 0, .int .i64 0, .int .i64 0, .int .i64 0, .int .i64 0] 46)).cell? ⟨hb, k, none⟩ = some v := fun k v h => alloc_cell h _
  have h0 := d 0 _ hr.c0
  have h1 := d 1 _ hr.c1
  have h2 := d 2 _ hr.c2
  have h3 := d 3 _ hr.c3
  have h4 := d 4 _ hr.c4
  have h5 := d 5 _ hr.c5
  have g0 := hr.c0
  have c := fresh_cells w #[.int .i64 s.objs, .int .i64 s.words, .int .i64 s.copied, .int .i64 s.worst, .int .i64 s.minors, .int .i64 s.majors] 46
  have c0 := c 0 rfl
  have c1 := c 1 rfl
  have c2 := c 2 rfl
  have c3 := c 3 rfl
  have c4 := c 4 rfl
  have c5 := c 5 rfl
  clear c d
  clear hr
  go_enter Try.func18, Try.ntmps18
  go_wp2
  refine ⟨rfl, .agg #[.int .i64 s.objs, .int .i64 s.words, .int .i64 s.copied, .int .i64 s.worst, .int .i64 s.minors, .int .i64 s.majors], ?_, rfl, fr_alloc1 _ _⟩
  simp [results, Try.results18, go_sem, c0, c1, c2, c3, c4, c5]

set_option maxRecDepth 100000 in
set_option maxHeartbeats 1000000 in
theorem Used_any (hr : HRep w hb L s) (hl : ∀ k, k < 3 → (s.ar k).length ≤ 1000000000000) : Calls Try.prog 21 #[.pointer (some ⟨hb, 0, none⟩)] w fun e w' => e = .returned (.tuple #[.int .i64 (s.ar 2).length, .int .i64 ((s.ar 0).length + (s.ar 1).length)]) ∧ Fr (fun _ => False) w w' := by
  obtain ⟨a0, p0, e0⟩ := (hr.ar 0 (by omega)).shape
  obtain ⟨a1, p1, e1⟩ := (hr.ar 1 (by omega)).shape
  obtain ⟨a2, p2, e2⟩ := (hr.ar 2 (by omega)).shape
  have d0 := hr.area (k := 0) (by omega)
  have d1 := hr.area (k := 1) (by omega)
  have d2 := hr.area (k := 2) (by omega)
  rw [e0] at d0
  rw [e1] at d1
  rw [e2] at d2
  have h0 := hr.c0
  have l0 := hl 0 (by omega)
  have l1 := hl 1 (by omega)
  have l2 := hl 2 (by omega)
  obtain ⟨n0, hn0⟩ : ∃ n, n = (s.ar 0).length := ⟨_, rfl⟩
  obtain ⟨n1, hn1⟩ : ∃ n, n = (s.ar 1).length := ⟨_, rfl⟩
  obtain ⟨n2, hn2⟩ : ∃ n, n = (s.ar 2).length := ⟨_, rfl⟩
  rw [← hn0] at d0 l0 ⊢
  rw [← hn1] at d1 l1 ⊢
  rw [← hn2] at d2 l2 ⊢
  clear hr e0 e1 e2 hn0 hn1 hn2 hl
  have hwr : IntKind.i64.wrap ((n0 : Int) + (n1 : Int)) = (n0 : Int) + (n1 : Int) := IntWalk.i64_in _ (by omega)
  go_enter Try.func21, Try.ntmps21
  go_wp2
  go_quiet (fail)
  go_wp2
  go_ret2
  exact ⟨rfl, rfl, rfl, rfl, Nat.le_refl _, fun _ _ _ => rfl⟩

/-- What Live leaves. -/
def LiveM (hb : Nat) (L : Lay) (s : HS) (w : World) (A : AHeap) (k : Nat) (w' : World) : Prop :=
  ∃ L' s', HRep w' hb L' s' ∧ Good s' A k ∧ Left hb L L' w w' ∧ Ran True 0 0 A s s'

theorem Live_ran (hr : HRep w hb L s) (hG : Good s A k) :
    Calls Try.prog 12 #[.pointer (some ⟨hb, 0, none⟩)] w fun e w' => e = .returned (.int .i64 A.live) ∧ LiveM hb L s w A k w' := by
  obtain ⟨b1, b2, b3, b4, b5, b6⟩ := hG.bounds
  have hnsl := hG.nsl
  have hlt := hr.lt (.inl rfl)
  refine (Live_w (R := fun x y w' => y = (A.live : Int) ∧ w'.heap[w.heap.size + 1]? = some (.cells #[.int .i64 A.live] 3 (0, 0)) ∧ LiveM hb L s w A k w') ((methX (rx := w.heap.size + 1) (os := [.cells #[.pointer (some ⟨hb, 0, none⟩)] 23, .cells #[.int .i64 0] 3]) hr hG (by simp) (enters_of Try.func38 (by kernel_rfl) rfl)
    (R := fun x s1 W1 => Good s1 A k ∧ Ran True 0 0 A s (paused s s1) ∧ W1.heap[w.heap.size + 1]? = some (.cells #[.int .i64 A.live] 3 (0, 0))) ?_).mono ?_)).mono ?_
  · intro Wc hf hcs hrc
    have x0 := box_at hf 0 rfl
    have x3 : Wc.heap[w.heap.size + 1]? = some (.cells #[.int .i64 0] 3 (0, 0)) := box_at hf 1 rfl
    obtain ⟨G, φ, hi⟩ := hG.inv
    have hnx : ¬ L.foot hb (w.heap.size + 1) := foot_lt hr (by omega)
    refine (live_clo hrc (cell_of_box x0).1 (by omega) hi hG.sized x3 hnx).mono ?_
    rintro e W1 ⟨rfl, W, L', s', G', φ', rfl, hw⟩
    have hl3 := (Array.getElem?_eq_some_iff.1 x3).1
    have hx2 : W.heap[w.heap.size + 1]? = some (.cells #[.int .i64 0] 3 (0, 0)) := by rw [hw.fr.block _ hl3 hnx]; exact x3
    have hfoot : ∀ j, L'.foot hb j → L.foot hb j := by
      intro j hj
      rcases hj with rfl | ⟨i, hi', hj⟩
      · exact .inl rfl
      · exact .inr ⟨i, hi', by rw [← (hw.base i hi').own]; exact hj⟩
    have fs := fr_setCell W (w.heap.size + 1) 0 (.int .i64 A.live)
    refine ⟨L', s', none, .inl ⟨rfl, rfl⟩, hw.rep.of_fr fs (fun j hj e => hnx (e ▸ hfoot j hj)), ⟨?_, fun j hj => .inl (hfoot j hj)⟩, by rw [hw.copied]; exact ⟨Int.le_refl _, by omega⟩, hG.kept hw.inv hw.kept, hw.kept.idle.ran hG.y0, by rw [setCell_block W _ 0 _ hx2]; rfl⟩
    exact (hw.fr.mono (B' := fun k => L.foot hb k ∨ k = w.heap.size + 1) fun _ h => .inl h).trans fs fun j hj => .inl (.inr hj)
  · rintro e w' ⟨x, W1, rfl, L1, s1, h1, h2, ⟨h3, h4, h6⟩, h7⟩
    have hl6 := (Array.getElem?_eq_some_iff.1 h6).1
    have h8 : w'.heap[w.heap.size + 1]? = some (.cells #[.int .i64 A.live] 3 (0, 0)) := by rw [h7 _ hl6 (by omega) (by simp)]; exact h6
    exact ⟨x, _, rfl, (cell_of_box h8).1, (cell_of_box h8).2, rfl, h8, L1, _, h1, h3.worst _, h2, h4⟩
  · rintro e w' ⟨W, x, y, rfl, ⟨rfl, h8, L', s', q1, q2, q3, q4⟩, hw⟩
    have hh : w'.heap = W.heap := hw.1.trans (setCell_id h8)
    exact ⟨rfl, L', s', q1.of_heap hh, q2, ⟨⟨hw.2.1.trans q3.fr.os, hw.2.2.1.trans q3.fr.tape, hw.2.2.2.trans q3.fr.output, by rw [hh]; exact q3.fr.size, fun j hj hn => by rw [hh]; exact q3.fr.block j hj hn⟩, q3.foot⟩, q4⟩
end
end Go.Proofs.Ythjokcjdphempaa

namespace Go.Proofs.Ythjokcjdphempaa
open Go.RowKit Hp Go.Shelf

def zero4 : Obj := .cells #[.int .i64 0, .int .i64 0, .int .i64 0, .int .i64 0] 30 (0, 0)

theorem Ran.weak {q q' : Prop} {sz : Nat} {x : Int} {A : AHeap} {s s' : HS} (h : Ran q sz x A s s') (hq : q' → q) : Ran q' sz x A s s' :=
  ⟨h.room, h.young, h.mono, h.big, fun a => h.worst (hq a), fun a => h.cost (hq a), fun a => h.acc (hq a)⟩

theorem Did.mono {q q' : Prop} {sz : Nat} {hb : Nat} {L : Lay} {s : HS} {w : World} {A : AHeap} {k : Nat} {x : Int} {w' : World} (h : Did q sz hb L s w A k x w') (hq : q' → q) : Did q' sz hb L s w A k x w' := by
  obtain ⟨L', s', A', h1, h2, h3, h4⟩ := h
  exact ⟨L', s', A', h1, h2, h3, h4.weak hq⟩

/-- What an act hands back. -/
def Acted (P : Int → World → Prop) (e : Ending) (w' : World) : Prop := ∃ n0 n1 n2 x, e = .returned (.agg #[.int .i64 n0, .int .i64 n1, .int .i64 n2, .int .i64 x]) ∧ P x w'

section
variable {q : Prop} {sz : Nat} {hb : Nat} {L : Lay} {s : HS} {w : World} {A : AHeap} {k : Nat} {x : Int}

theorem Stepped.did {n : Int} {w' : World} (h : Stepped n hb L s w A k x w') : Did False 0 hb L s w A k x w' := by
  obtain ⟨L', s', h1, h2, h3, h4, _⟩ := h
  exact ⟨L', s', A, h1, h2, h3, h4⟩

theorem MinoredM.did {w' : World} (h : MinoredM hb L s w A k x w') : Did True 0 hb L s w A k x w' := by
  obtain ⟨_, L', s', h1, h2, h3, h4, _⟩ := h
  exact ⟨L', s', A, h1, h2, h3, h4⟩

theorem WholeM.did {w' : World} (h : WholeM hb L s w A k x w') : Did False 0 hb L s w A k x w' := by
  obtain ⟨_, L', s', h1, h2, h3, h4, _⟩ := h
  exact ⟨L', s', A, h1, h2, h3, h4⟩

/-- The two blocks that do lays. -/
theorem do_in (hr : HRep w hb L s) (o : Obj) : HRep ((w.alloc o).alloc (.cells #[.int .i64 0, .int .i64 0, .int .i64 0, .int .i64 0] 30)) hb L s ∧ ((w.alloc o).alloc (.cells #[.int .i64 0, .int .i64 0, .int .i64 0, .int .i64 0] 30)).heap[w.heap.size + 1]? = some zero4 ∧ ¬ L.foot hb (w.heap.size + 1) := by
  have hf : Fr (fun _ => False) w ((w.alloc o).alloc (.cells #[.int .i64 0, .int .i64 0, .int .i64 0, .int .i64 0] 30)) := (fr_alloc1 _ _).trans (fr_alloc1 _ _) fun _ h => h.elim
  have hn := World.alloc_heap_new (w.alloc o) (.cells #[.int .i64 0, .int .i64 0, .int .i64 0, .int .i64 0] 30)
  rw [show (w.alloc o).heap.size = w.heap.size + 1 by simp] at hn
  exact ⟨hr.of_fr hf fun _ _ h => h, hn, foot_lt hr (by omega)⟩

theorem did_block {w1 : World} (h : Did q sz hb L s w A k x w1) {j : Nat} {o : Obj} (hj : w.heap[j]? = some o) (hn : ¬ L.foot hb j) : w1.heap[j]? = some o := by
  obtain ⟨L', s', A', h1, h2, h3, h4⟩ := h
  rw [h3.fr.block j (Array.getElem?_eq_some_iff.1 hj).1 hn]; exact hj

/-- The result's cells as they are before the one store. -/
structure Zero4 (w2 : World) (b : Nat) : Prop where
  blk : w2.heap[b]? = some zero4
  c0 : w2.cell? ⟨b, 0, none⟩ = some (.int .i64 0)
  c1 : w2.cell? ⟨b, 1, none⟩ = some (.int .i64 0)
  c2 : w2.cell? ⟨b, 2, none⟩ = some (.int .i64 0)
  c3 : w2.cell? ⟨b, 3, none⟩ = some (.int .i64 0)
  z0 : w2.frozen? ⟨b, 0, none⟩ = false
  z1 : w2.frozen? ⟨b, 1, none⟩ = false
  z2 : w2.frozen? ⟨b, 2, none⟩ = false
  z3 : w2.frozen? ⟨b, 3, none⟩ = false

theorem zero4_of {w2 : World} {b : Nat} (hx : w2.heap[b]? = some zero4) : Zero4 w2 b := by
  unfold zero4 at hx
  exact ⟨hx, by simp only [World.cell?, hx]; rfl, by simp only [World.cell?, hx]; rfl, by simp only [World.cell?, hx]; rfl, by simp only [World.cell?, hx]; rfl, by simp [World.frozen?, hx], by simp [World.frozen?, hx], by simp [World.frozen?, hx], by simp [World.frozen?, hx]⟩

/-- The world behind the one store. -/
def put4 (w2 : World) (b : Nat) (n0 n1 n2 x : Int) : World := (((w2.setCell ⟨b, 0, none⟩ (.int .i64 n0)).setCell ⟨b, 1, none⟩ (.int .i64 n1)).setCell ⟨b, 2, none⟩ (.int .i64 n2)).setCell ⟨b, 3, none⟩ (.int .i64 x)

theorem Zero4.read {w2 : World} {b : Nat} (h : Zero4 w2 b) (n0 n1 n2 x : Int) : (put4 w2 b n0 n1 n2 x).cell? ⟨b, 0, none⟩ = some (.int .i64 n0) ∧ (put4 w2 b n0 n1 n2 x).cell? ⟨b, 1, none⟩ = some (.int .i64 n1) ∧ (put4 w2 b n0 n1 n2 x).cell? ⟨b, 2, none⟩ = some (.int .i64 n2) ∧ (put4 w2 b n0 n1 n2 x).cell? ⟨b, 3, none⟩ = some (.int .i64 x) := by
  have h0 := setCell_block w2 b 0 (.int .i64 n0) h.blk
  have h1 := setCell_block _ b 1 (.int .i64 n1) h0
  have h2 := setCell_block _ b 2 (.int .i64 n2) h1
  have h3 := setCell_block _ b 3 (.int .i64 x) h2
  unfold put4
  refine ⟨?_, ?_, ?_, ?_⟩
  all_goals
    simp only [World.cell?, h3]
    rfl

theorem did_put {w1 w2 : World} {o : Obj} {b : Nat} {n0 n1 n2 y : Int} (hr : HRep w hb L s) (h : Did q sz hb L s ((w.alloc o).alloc (.cells #[.int .i64 0, .int .i64 0, .int .i64 0, .int .i64 0] 30)) A k x w1) (hf : Fr (fun _ => False) w1 w2) (hb1 : b = w.heap.size + 1) : Did q sz hb L s w A k x (put4 w2 b n0 n1 n2 y) := by
  obtain ⟨L', s', A', h1, h2, h3, h4⟩ := h
  have hfoot : ¬ L'.foot hb b := fun hj => by
    rcases h3.foot b hj with h | h
    · exact foot_lt hr (by omega) h
    · simp at h; omega
  have f4 : Fr (fun j => j = b) w2 (put4 w2 b n0 n1 n2 y) := (((fr_setCell w2 b 0 _).trans (fr_setCell _ b 1 _) fun _ h => .inl h).trans (fr_setCell _ b 2 _) fun _ h => .inl h).trans (fr_setCell _ b 3 _) fun _ h => .inl h
  refine ⟨L', s', A', (h1.of_fr hf fun _ _ h => h).of_fr f4 fun j hj e => hfoot (e ▸ hj), h2, ?_, h4⟩
  have l0 : Left hb L L w ((w.alloc o).alloc (.cells #[.int .i64 0, .int .i64 0, .int .i64 0, .int .i64 0] 30)) := (alloc_left w o).trans (alloc_left _ _)
  have l1 := l0.trans h3
  refine ⟨(l1.fr.trans hf fun j hj => hj.elim).trans f4 fun j hj => .inr (by omega), l1.foot⟩
end

set_option maxRecDepth 100000 in
set_option maxHeartbeats 2000000 in
theorem doh_0 {hb : Nat} {L : Lay} {s : HS} {w : World} {A : AHeap} {k : Nat} {kd a b c d : Int} (hr : HRep w hb L s) (hG : Good s A k) (hk : k + 1 ≤ 100000) (hkd : kd.tmod 15 = 0) :
    Calls Try.prog 11 #[.pointer (some ⟨hb, 0, none⟩), .agg #[.int .u8 kd, .int .i64 a, .int .i64 b, .int .i64 c, .int .i64 d]] w (Acted (Did True 0 hb L s w A k)) := by
  obtain ⟨hr0, hz0, hn0⟩ := do_in hr (.cells #[.int .u8 kd, .int .i64 a, .int .i64 b, .int .i64 c, .int .i64 d] 33)
  have HW := Lib.hid hr
  have HR := Lib.hid hr0
  have HZ := Lib.hid (And.intro hz0 hn0)
  have HG := Lib.hid hG
  have HK := Lib.hid hk
  clear hr hr0 hz0 hn0 hG hk
  go_enter Try.func11, Try.ntmps11
  go_wp2_with (first | (go_at_call 27; refine (Grow_do HR.out HG.out HK.out).mono ?_; rintro e w1 ⟨x, rfl, hd⟩; have H1 := Lib.hid hd; clear hd) | (go_at_call 25; refine only_r.mono ?_; rintro e w2 ⟨rfl, hf⟩; have hz := zero4_of (box_keep (did_block H1.out HZ.out.1 HZ.out.2) hf); have H2 := Lib.hid (And.intro hf hz); obtain ⟨_, c0, c1, c2, c3, z0, z1, z2, z3⟩ := hz; clear hf))
  obtain ⟨r0, r1, r2, r3⟩ := (H2.out.2).read 0 0 0 x
  unfold put4 at r0 r1 r2 r3
  refine ⟨rfl, .agg #[.int .i64 0, .int .i64 0, .int .i64 0, .int .i64 x], ?_, _, _, _, _, rfl, did_put HW.out H1.out H2.out.1 rfl⟩
  simp [results, Try.results11, go_sem, r0, r1, r2, r3]

set_option maxRecDepth 100000 in
set_option maxHeartbeats 2000000 in
theorem doh_1 {hb : Nat} {L : Lay} {s : HS} {w : World} {A : AHeap} {k : Nat} {kd a b c d : Int} (hr : HRep w hb L s) (hG : Good s A k) (hk : k + 1 ≤ 100000) (hkd : kd.tmod 15 = 1) :
    Calls Try.prog 11 #[.pointer (some ⟨hb, 0, none⟩), .agg #[.int .u8 kd, .int .i64 a, .int .i64 b, .int .i64 c, .int .i64 d]] w (Acted (Did True 0 hb L s w A k)) := by
  obtain ⟨hr0, hz0, hn0⟩ := do_in hr (.cells #[.int .u8 kd, .int .i64 a, .int .i64 b, .int .i64 c, .int .i64 d] 33)
  have HW := Lib.hid hr
  have HR := Lib.hid hr0
  have HZ := Lib.hid (And.intro hz0 hn0)
  have HG := Lib.hid hG
  have HK := Lib.hid hk
  clear hr hr0 hz0 hn0 hG hk
  go_enter Try.func11, Try.ntmps11
  go_wp2_with (first | (go_at_call 24; refine (Shrink_do HR.out HG.out HK.out).mono ?_; rintro e w1 ⟨x, rfl, hd⟩; have H1 := Lib.hid hd; clear hd) | (go_at_call 25; refine only_r.mono ?_; rintro e w2 ⟨rfl, hf⟩; have hz := zero4_of (box_keep (did_block H1.out HZ.out.1 HZ.out.2) hf); have H2 := Lib.hid (And.intro hf hz); obtain ⟨_, c0, c1, c2, c3, z0, z1, z2, z3⟩ := hz; clear hf))
  obtain ⟨r0, r1, r2, r3⟩ := (H2.out.2).read 0 0 0 x
  unfold put4 at r0 r1 r2 r3
  refine ⟨rfl, .agg #[.int .i64 0, .int .i64 0, .int .i64 0, .int .i64 x], ?_, _, _, _, _, rfl, did_put HW.out H1.out H2.out.1 rfl⟩
  simp [results, Try.results11, go_sem, r0, r1, r2, r3]

set_option maxRecDepth 100000 in
set_option maxHeartbeats 2000000 in
theorem doh_2 {hb : Nat} {L : Lay} {s : HS} {w : World} {A : AHeap} {k : Nat} {kd a b c d : Int} (hr : HRep w hb L s) (hG : Good s A k) (hk : k + 1 ≤ 100000) (hkd : kd.tmod 15 = 2) :
    Calls Try.prog 11 #[.pointer (some ⟨hb, 0, none⟩), .agg #[.int .u8 kd, .int .i64 a, .int .i64 b, .int .i64 c, .int .i64 d]] w (Acted (Did True (askedOf c d) hb L s w A k)) := by
  obtain ⟨hr0, hz0, hn0⟩ := do_in hr (.cells #[.int .u8 kd, .int .i64 a, .int .i64 b, .int .i64 c, .int .i64 d] 33)
  have HW := Lib.hid hr
  have HR := Lib.hid hr0
  have HZ := Lib.hid (And.intro hz0 hn0)
  have HG := Lib.hid hG
  have HK := Lib.hid hk
  clear hr hr0 hz0 hn0 hG hk
  go_enter Try.func11, Try.ntmps11
  go_wp2_with (first | (go_at_call 14; refine (Make_do HR.out HG.out HK.out).mono ?_; rintro e w1 ⟨x, rfl, hd⟩; have H1 := Lib.hid hd; clear hd) | (go_at_call 25; refine only_r.mono ?_; rintro e w2 ⟨rfl, hf⟩; have hz := zero4_of (box_keep (did_block H1.out HZ.out.1 HZ.out.2) hf); have H2 := Lib.hid (And.intro hf hz); obtain ⟨_, c0, c1, c2, c3, z0, z1, z2, z3⟩ := hz; clear hf))
  obtain ⟨r0, r1, r2, r3⟩ := (H2.out.2).read 0 0 0 x
  unfold put4 at r0 r1 r2 r3
  refine ⟨rfl, .agg #[.int .i64 0, .int .i64 0, .int .i64 0, .int .i64 x], ?_, _, _, _, _, rfl, did_put HW.out H1.out H2.out.1 rfl⟩
  simp [results, Try.results11, go_sem, r0, r1, r2, r3]

set_option maxRecDepth 100000 in
set_option maxHeartbeats 2000000 in
theorem doh_3 {hb : Nat} {L : Lay} {s : HS} {w : World} {A : AHeap} {k : Nat} {kd a b c d : Int} (hr : HRep w hb L s) (hG : Good s A k) (hk : k + 1 ≤ 100000) (hkd : kd.tmod 15 = 3) :
    Calls Try.prog 11 #[.pointer (some ⟨hb, 0, none⟩), .agg #[.int .u8 kd, .int .i64 a, .int .i64 b, .int .i64 c, .int .i64 d]] w (Acted (Did True 0 hb L s w A k)) := by
  obtain ⟨hr0, hz0, hn0⟩ := do_in hr (.cells #[.int .u8 kd, .int .i64 a, .int .i64 b, .int .i64 c, .int .i64 d] 33)
  have HW := Lib.hid hr
  have HR := Lib.hid hr0
  have HZ := Lib.hid (And.intro hz0 hn0)
  have HG := Lib.hid hG
  have HK := Lib.hid hk
  clear hr hr0 hz0 hn0 hG hk
  go_enter Try.func11, Try.ntmps11
  go_wp2_with (first | (go_at_call 33; refine (Copy_do HR.out HG.out HK.out).mono ?_; rintro e w1 ⟨x, rfl, hd⟩; have H1 := Lib.hid hd; clear hd) | (go_at_call 25; refine only_r.mono ?_; rintro e w2 ⟨rfl, hf⟩; have hz := zero4_of (box_keep (did_block H1.out HZ.out.1 HZ.out.2) hf); have H2 := Lib.hid (And.intro hf hz); obtain ⟨_, c0, c1, c2, c3, z0, z1, z2, z3⟩ := hz; clear hf))
  obtain ⟨r0, r1, r2, r3⟩ := (H2.out.2).read 0 0 0 x
  unfold put4 at r0 r1 r2 r3
  refine ⟨rfl, .agg #[.int .i64 0, .int .i64 0, .int .i64 0, .int .i64 x], ?_, _, _, _, _, rfl, did_put HW.out H1.out H2.out.1 rfl⟩
  simp [results, Try.results11, go_sem, r0, r1, r2, r3]

set_option maxRecDepth 100000 in
set_option maxHeartbeats 2000000 in
theorem doh_4 {hb : Nat} {L : Lay} {s : HS} {w : World} {A : AHeap} {k : Nat} {kd a b c d : Int} (hr : HRep w hb L s) (hG : Good s A k) (hk : k + 1 ≤ 100000) (hkd : kd.tmod 15 = 4) :
    Calls Try.prog 11 #[.pointer (some ⟨hb, 0, none⟩), .agg #[.int .u8 kd, .int .i64 a, .int .i64 b, .int .i64 c, .int .i64 d]] w (Acted (Did True 0 hb L s w A k)) := by
  obtain ⟨hr0, hz0, hn0⟩ := do_in hr (.cells #[.int .u8 kd, .int .i64 a, .int .i64 b, .int .i64 c, .int .i64 d] 33)
  have HW := Lib.hid hr
  have HR := Lib.hid hr0
  have HZ := Lib.hid (And.intro hz0 hn0)
  have HG := Lib.hid hG
  have HK := Lib.hid hk
  clear hr hr0 hz0 hn0 hG hk
  go_enter Try.func11, Try.ntmps11
  go_wp2_with (first | (go_at_call 34; refine (Clear_do HR.out HG.out HK.out).mono ?_; rintro e w1 ⟨x, rfl, hd⟩; have H1 := Lib.hid hd; clear hd) | (go_at_call 25; refine only_r.mono ?_; rintro e w2 ⟨rfl, hf⟩; have hz := zero4_of (box_keep (did_block H1.out HZ.out.1 HZ.out.2) hf); have H2 := Lib.hid (And.intro hf hz); obtain ⟨_, c0, c1, c2, c3, z0, z1, z2, z3⟩ := hz; clear hf))
  obtain ⟨r0, r1, r2, r3⟩ := (H2.out.2).read 0 0 0 x
  unfold put4 at r0 r1 r2 r3
  refine ⟨rfl, .agg #[.int .i64 0, .int .i64 0, .int .i64 0, .int .i64 x], ?_, _, _, _, _, rfl, did_put HW.out H1.out H2.out.1 rfl⟩
  simp [results, Try.results11, go_sem, r0, r1, r2, r3]

set_option maxRecDepth 100000 in
set_option maxHeartbeats 2000000 in
theorem doh_5 {hb : Nat} {L : Lay} {s : HS} {w : World} {A : AHeap} {k : Nat} {kd a b c d : Int} (hr : HRep w hb L s) (hG : Good s A k) (hk : k + 1 ≤ 100000) (hkd : kd.tmod 15 = 5) :
    Calls Try.prog 11 #[.pointer (some ⟨hb, 0, none⟩), .agg #[.int .u8 kd, .int .i64 a, .int .i64 b, .int .i64 c, .int .i64 d]] w (Acted (Did True 0 hb L s w A k)) := by
  obtain ⟨hr0, hz0, hn0⟩ := do_in hr (.cells #[.int .u8 kd, .int .i64 a, .int .i64 b, .int .i64 c, .int .i64 d] 33)
  have HW := Lib.hid hr
  have HR := Lib.hid hr0
  have HZ := Lib.hid (And.intro hz0 hn0)
  have HG := Lib.hid hG
  have HK := Lib.hid hk
  clear hr hr0 hz0 hn0 hG hk
  go_enter Try.func11, Try.ntmps11
  go_wp2_with (first | (go_at_call 30; refine (Get_do HR.out HG.out HK.out).mono ?_; rintro e w1 ⟨x, rfl, hd⟩; have H1 := Lib.hid hd; clear hd) | (go_at_call 25; refine only_r.mono ?_; rintro e w2 ⟨rfl, hf⟩; have hz := zero4_of (box_keep (did_block H1.out HZ.out.1 HZ.out.2) hf); have H2 := Lib.hid (And.intro hf hz); obtain ⟨_, c0, c1, c2, c3, z0, z1, z2, z3⟩ := hz; clear hf))
  obtain ⟨r0, r1, r2, r3⟩ := (H2.out.2).read 0 0 0 x
  unfold put4 at r0 r1 r2 r3
  refine ⟨rfl, .agg #[.int .i64 0, .int .i64 0, .int .i64 0, .int .i64 x], ?_, _, _, _, _, rfl, did_put HW.out H1.out H2.out.1 rfl⟩
  simp [results, Try.results11, go_sem, r0, r1, r2, r3]

set_option maxRecDepth 100000 in
set_option maxHeartbeats 2000000 in
theorem doh_6 {hb : Nat} {L : Lay} {s : HS} {w : World} {A : AHeap} {k : Nat} {kd a b c d : Int} (hr : HRep w hb L s) (hG : Good s A k) (hk : k + 1 ≤ 100000) (hkd : kd.tmod 15 = 6) :
    Calls Try.prog 11 #[.pointer (some ⟨hb, 0, none⟩), .agg #[.int .u8 kd, .int .i64 a, .int .i64 b, .int .i64 c, .int .i64 d]] w (Acted (Did True 0 hb L s w A k)) := by
  obtain ⟨hr0, hz0, hn0⟩ := do_in hr (.cells #[.int .u8 kd, .int .i64 a, .int .i64 b, .int .i64 c, .int .i64 d] 33)
  have HW := Lib.hid hr
  have HR := Lib.hid hr0
  have HZ := Lib.hid (And.intro hz0 hn0)
  have HG := Lib.hid hG
  have HK := Lib.hid hk
  clear hr hr0 hz0 hn0 hG hk
  go_enter Try.func11, Try.ntmps11
  go_wp2_with (first | (go_at_call 28; refine (Set_do HR.out HG.out HK.out).mono ?_; rintro e w1 ⟨x, rfl, hd⟩; have H1 := Lib.hid hd; clear hd) | (go_at_call 25; refine only_r.mono ?_; rintro e w2 ⟨rfl, hf⟩; have hz := zero4_of (box_keep (did_block H1.out HZ.out.1 HZ.out.2) hf); have H2 := Lib.hid (And.intro hf hz); obtain ⟨_, c0, c1, c2, c3, z0, z1, z2, z3⟩ := hz; clear hf))
  obtain ⟨r0, r1, r2, r3⟩ := (H2.out.2).read 0 0 0 x
  unfold put4 at r0 r1 r2 r3
  refine ⟨rfl, .agg #[.int .i64 0, .int .i64 0, .int .i64 0, .int .i64 x], ?_, _, _, _, _, rfl, did_put HW.out H1.out H2.out.1 rfl⟩
  simp [results, Try.results11, go_sem, r0, r1, r2, r3]

set_option maxRecDepth 100000 in
set_option maxHeartbeats 2000000 in
theorem doh_7 {hb : Nat} {L : Lay} {s : HS} {w : World} {A : AHeap} {k : Nat} {kd a b c d : Int} (hr : HRep w hb L s) (hG : Good s A k) (hk : k + 1 ≤ 100000) (hkd : kd.tmod 15 = 7) :
    Calls Try.prog 11 #[.pointer (some ⟨hb, 0, none⟩), .agg #[.int .u8 kd, .int .i64 a, .int .i64 b, .int .i64 c, .int .i64 d]] w (Acted (Did True 0 hb L s w A k)) := by
  obtain ⟨hr0, hz0, hn0⟩ := do_in hr (.cells #[.int .u8 kd, .int .i64 a, .int .i64 b, .int .i64 c, .int .i64 d] 33)
  have HW := Lib.hid hr
  have HR := Lib.hid hr0
  have HZ := Lib.hid (And.intro hz0 hn0)
  have HG := Lib.hid hG
  have HK := Lib.hid hk
  clear hr hr0 hz0 hn0 hG hk
  go_enter Try.func11, Try.ntmps11
  go_wp2_with ((go_at_call 32; refine (Load_do HR.out HG.out HK.out).mono ?_; rintro e w1 ⟨x, y, rfl, hd⟩; have H1 := Lib.hid hd; clear hd; have hz := zero4_of (did_block H1.out HZ.out.1 HZ.out.2); have H2 := Lib.hid hz; obtain ⟨_, c0, c1, c2, c3, z0, z1, z2, z3⟩ := hz))
  obtain ⟨r0, r1, r2, r3⟩ := (H2.out).read y 0 0 x
  unfold put4 at r0 r1 r2 r3
  refine ⟨rfl, .agg #[.int .i64 y, .int .i64 0, .int .i64 0, .int .i64 x], ?_, _, _, _, _, rfl, did_put HW.out H1.out (Fr.refl _ _) rfl⟩
  simp [results, Try.results11, go_sem, r0, r1, r2, r3]

set_option maxRecDepth 100000 in
set_option maxHeartbeats 2000000 in
theorem doh_8 {hb : Nat} {L : Lay} {s : HS} {w : World} {A : AHeap} {k : Nat} {kd a b c d : Int} (hr : HRep w hb L s) (hG : Good s A k) (hk : k + 1 ≤ 100000) (hkd : kd.tmod 15 = 8) :
    Calls Try.prog 11 #[.pointer (some ⟨hb, 0, none⟩), .agg #[.int .u8 kd, .int .i64 a, .int .i64 b, .int .i64 c, .int .i64 d]] w (Acted (Did True 0 hb L s w A k)) := by
  obtain ⟨hr0, hz0, hn0⟩ := do_in hr (.cells #[.int .u8 kd, .int .i64 a, .int .i64 b, .int .i64 c, .int .i64 d] 33)
  have HW := Lib.hid hr
  have HR := Lib.hid hr0
  have HZ := Lib.hid (And.intro hz0 hn0)
  have HG := Lib.hid hG
  have HK := Lib.hid hk
  clear hr hr0 hz0 hn0 hG hk
  go_enter Try.func11, Try.ntmps11
  go_wp2_with (first | (go_at_call 29; refine (Store_do HR.out HG.out HK.out).mono ?_; rintro e w1 ⟨x, rfl, hd⟩; have H1 := Lib.hid hd; clear hd) | (go_at_call 25; refine only_r.mono ?_; rintro e w2 ⟨rfl, hf⟩; have hz := zero4_of (box_keep (did_block H1.out HZ.out.1 HZ.out.2) hf); have H2 := Lib.hid (And.intro hf hz); obtain ⟨_, c0, c1, c2, c3, z0, z1, z2, z3⟩ := hz; clear hf))
  obtain ⟨r0, r1, r2, r3⟩ := (H2.out.2).read 0 0 0 x
  unfold put4 at r0 r1 r2 r3
  refine ⟨rfl, .agg #[.int .i64 0, .int .i64 0, .int .i64 0, .int .i64 x], ?_, _, _, _, _, rfl, did_put HW.out H1.out H2.out.1 rfl⟩
  simp [results, Try.results11, go_sem, r0, r1, r2, r3]

set_option maxRecDepth 100000 in
set_option maxHeartbeats 2000000 in
theorem doh_9 {hb : Nat} {L : Lay} {s : HS} {w : World} {A : AHeap} {k : Nat} {kd a b c d : Int} (hr : HRep w hb L s) (hG : Good s A k) (hk : k + 1 ≤ 100000) (hkd : kd.tmod 15 = 9) :
    Calls Try.prog 11 #[.pointer (some ⟨hb, 0, none⟩), .agg #[.int .u8 kd, .int .i64 a, .int .i64 b, .int .i64 c, .int .i64 d]] w (Acted (Did True 0 hb L s w A k)) := by
  obtain ⟨hr0, hz0, hn0⟩ := do_in hr (.cells #[.int .u8 kd, .int .i64 a, .int .i64 b, .int .i64 c, .int .i64 d] 33)
  have HW := Lib.hid hr
  have HR := Lib.hid hr0
  have HZ := Lib.hid (And.intro hz0 hn0)
  have HG := Lib.hid hG
  have HK := Lib.hid hk
  clear hr hr0 hz0 hn0 hG hk
  go_enter Try.func11, Try.ntmps11
  go_wp2_with ((go_at_call 17; refine (Shape_any HR.out HG.out HK.out).mono ?_; rintro e w1 ⟨x, n0, n1, n2, rfl, hd⟩; have H1 := Lib.hid hd.1; clear hd; have hz := zero4_of (did_block H1.out HZ.out.1 HZ.out.2); have H2 := Lib.hid hz; obtain ⟨_, c0, c1, c2, c3, z0, z1, z2, z3⟩ := hz))
  obtain ⟨r0, r1, r2, r3⟩ := (H2.out).read n0 n1 n2 x
  unfold put4 at r0 r1 r2 r3
  refine ⟨rfl, .agg #[.int .i64 n0, .int .i64 n1, .int .i64 n2, .int .i64 x], ?_, _, _, _, _, rfl, did_put HW.out H1.out (Fr.refl _ _) rfl⟩
  simp [results, Try.results11, go_sem, r0, r1, r2, r3]

set_option maxRecDepth 100000 in
set_option maxHeartbeats 2000000 in
theorem doh_10 {hb : Nat} {L : Lay} {s : HS} {w : World} {A : AHeap} {k : Nat} {kd a b c d : Int} (hr : HRep w hb L s) (hG : Good s A k) (hk : k + 1 ≤ 100000) (hkd : kd.tmod 15 = 10) :
    Calls Try.prog 11 #[.pointer (some ⟨hb, 0, none⟩), .agg #[.int .u8 kd, .int .i64 a, .int .i64 b, .int .i64 c, .int .i64 d]] w (Acted (Did True 0 hb L s w A k)) := by
  obtain ⟨hr0, hz0, hn0⟩ := do_in hr (.cells #[.int .u8 kd, .int .i64 a, .int .i64 b, .int .i64 c, .int .i64 d] 33)
  have HW := Lib.hid hr
  have HR := Lib.hid hr0
  have HZ := Lib.hid (And.intro hz0 hn0)
  have HG := Lib.hid hG
  have HK := Lib.hid hk
  clear hr hr0 hz0 hn0 hG hk
  go_enter Try.func11, Try.ntmps11
  go_wp2_with (first | (go_at_call 35; refine (Empty_do HR.out HG.out HK.out).mono ?_; rintro e w1 ⟨x, y, rfl, hd⟩; have H1 := Lib.hid hd; clear hd; have hz := zero4_of (did_block H1.out HZ.out.1 HZ.out.2); have H2 := Lib.hid hz; obtain ⟨_, c0, c1, c2, c3, z0, z1, z2, z3⟩ := hz) | (go_at_call 36; refine truth_r.mono ?_; rintro e w2 ⟨rfl, rfl⟩; obtain ⟨n0, hn0⟩ : ∃ n : Int, n = (if y then 1 else 0) := ⟨_, rfl⟩; rw [← hn0]; clear hn0))
  obtain ⟨r0, r1, r2, r3⟩ := (H2.out).read n0 0 0 x
  unfold put4 at r0 r1 r2 r3
  refine ⟨rfl, .agg #[.int .i64 n0, .int .i64 0, .int .i64 0, .int .i64 x], ?_, _, _, _, _, rfl, did_put HW.out H1.out (Fr.refl _ _) rfl⟩
  simp [results, Try.results11, go_sem, r0, r1, r2, r3]

set_option maxRecDepth 100000 in
set_option maxHeartbeats 2000000 in
theorem doh_11 {hb : Nat} {L : Lay} {s : HS} {w : World} {A : AHeap} {k : Nat} {kd a b c d : Int} (hr : HRep w hb L s) (hG : Good s A k) (hk : k + 1 ≤ 100000) (hkd : kd.tmod 15 = 11) :
    Calls Try.prog 11 #[.pointer (some ⟨hb, 0, none⟩), .agg #[.int .u8 kd, .int .i64 a, .int .i64 b, .int .i64 c, .int .i64 d]] w (Acted (Did True 0 hb L s w A k)) := by
  obtain ⟨hr0, hz0, hn0⟩ := do_in hr (.cells #[.int .u8 kd, .int .i64 a, .int .i64 b, .int .i64 c, .int .i64 d] 33)
  have HW := Lib.hid hr
  have HR := Lib.hid hr0
  have HZ := Lib.hid (And.intro hz0 hn0)
  have HG := Lib.hid hG
  have HK := Lib.hid hk
  clear hr hr0 hz0 hn0 hG hk
  go_enter Try.func11, Try.ntmps11
  go_wp2_with (first | (go_at_call 31; refine (Alike_do HR.out HG.out HK.out).mono ?_; rintro e w1 ⟨x, y, rfl, hd⟩; have H1 := Lib.hid hd; clear hd; have hz := zero4_of (did_block H1.out HZ.out.1 HZ.out.2); have H2 := Lib.hid hz; obtain ⟨_, c0, c1, c2, c3, z0, z1, z2, z3⟩ := hz) | (go_at_call 36; refine truth_r.mono ?_; rintro e w2 ⟨rfl, rfl⟩; obtain ⟨n0, hn0⟩ : ∃ n : Int, n = (if y then 1 else 0) := ⟨_, rfl⟩; rw [← hn0]; clear hn0))
  obtain ⟨r0, r1, r2, r3⟩ := (H2.out).read n0 0 0 x
  unfold put4 at r0 r1 r2 r3
  refine ⟨rfl, .agg #[.int .i64 n0, .int .i64 0, .int .i64 0, .int .i64 x], ?_, _, _, _, _, rfl, did_put HW.out H1.out (Fr.refl _ _) rfl⟩
  simp [results, Try.results11, go_sem, r0, r1, r2, r3]

set_option maxRecDepth 100000 in
set_option maxHeartbeats 2000000 in
theorem doh_12 {hb : Nat} {L : Lay} {s : HS} {w : World} {A : AHeap} {k : Nat} {kd a b c d : Int} (hr : HRep w hb L s) (hG : Good s A k) (hk : k + 1 ≤ 100000) (hkd : kd.tmod 15 = 12) :
    Calls Try.prog 11 #[.pointer (some ⟨hb, 0, none⟩), .agg #[.int .u8 kd, .int .i64 a, .int .i64 b, .int .i64 c, .int .i64 d]] w (Acted (Did False 0 hb L s w A k)) := by
  obtain ⟨hr0, hz0, hn0⟩ := do_in hr (.cells #[.int .u8 kd, .int .i64 a, .int .i64 b, .int .i64 c, .int .i64 d] 33)
  have HW := Lib.hid hr
  have HR := Lib.hid hr0
  have HZ := Lib.hid (And.intro hz0 hn0)
  have HG := Lib.hid hG
  have HK := Lib.hid hk
  clear hr hr0 hz0 hn0 hG hk
  go_enter Try.func11, Try.ntmps11
  go_wp2_with (first | (go_at_call 19; refine (Step_any HR.out HG.out HK.out).mono ?_; rintro e w1 ⟨x, rfl, hd⟩; have H1 := Lib.hid hd.did; clear hd) | (go_at_call 25; refine only_r.mono ?_; rintro e w2 ⟨rfl, hf⟩; have hz := zero4_of (box_keep (did_block H1.out HZ.out.1 HZ.out.2) hf); have H2 := Lib.hid (And.intro hf hz); obtain ⟨_, c0, c1, c2, c3, z0, z1, z2, z3⟩ := hz; clear hf))
  obtain ⟨r0, r1, r2, r3⟩ := (H2.out.2).read 0 0 0 x
  unfold put4 at r0 r1 r2 r3
  refine ⟨rfl, .agg #[.int .i64 0, .int .i64 0, .int .i64 0, .int .i64 x], ?_, _, _, _, _, rfl, did_put HW.out H1.out H2.out.1 rfl⟩
  simp [results, Try.results11, go_sem, r0, r1, r2, r3]

set_option maxRecDepth 100000 in
set_option maxHeartbeats 2000000 in
theorem doh_13 {hb : Nat} {L : Lay} {s : HS} {w : World} {A : AHeap} {k : Nat} {kd a b c d : Int} (hr : HRep w hb L s) (hG : Good s A k) (hk : k + 1 ≤ 100000) (hkd : kd.tmod 15 = 13) :
    Calls Try.prog 11 #[.pointer (some ⟨hb, 0, none⟩), .agg #[.int .u8 kd, .int .i64 a, .int .i64 b, .int .i64 c, .int .i64 d]] w (Acted (Did True 0 hb L s w A k)) := by
  obtain ⟨hr0, hz0, hn0⟩ := do_in hr (.cells #[.int .u8 kd, .int .i64 a, .int .i64 b, .int .i64 c, .int .i64 d] 33)
  have HW := Lib.hid hr
  have HR := Lib.hid hr0
  have HZ := Lib.hid (And.intro hz0 hn0)
  have HG := Lib.hid hG
  have HK := Lib.hid hk
  clear hr hr0 hz0 hn0 hG hk
  go_enter Try.func11, Try.ntmps11
  go_wp2_with (first | (go_at_call 22; refine (Minor_any HR.out HG.out HK.out).mono ?_; rintro e w1 ⟨x, rfl, hd⟩; have H1 := Lib.hid hd.did; clear hd) | (go_at_call 25; refine only_r.mono ?_; rintro e w2 ⟨rfl, hf⟩; have hz := zero4_of (box_keep (did_block H1.out HZ.out.1 HZ.out.2) hf); have H2 := Lib.hid (And.intro hf hz); obtain ⟨_, c0, c1, c2, c3, z0, z1, z2, z3⟩ := hz; clear hf))
  obtain ⟨r0, r1, r2, r3⟩ := (H2.out.2).read 0 0 0 x
  unfold put4 at r0 r1 r2 r3
  refine ⟨rfl, .agg #[.int .i64 0, .int .i64 0, .int .i64 0, .int .i64 x], ?_, _, _, _, _, rfl, did_put HW.out H1.out H2.out.1 rfl⟩
  simp [results, Try.results11, go_sem, r0, r1, r2, r3]

set_option maxRecDepth 100000 in
set_option maxHeartbeats 2000000 in
theorem doh_14 {hb : Nat} {L : Lay} {s : HS} {w : World} {A : AHeap} {k : Nat} {kd a b c d : Int} (hr : HRep w hb L s) (hG : Good s A k) (hk : k + 1 ≤ 100000) (hkd : kd.tmod 15 = 14) :
    Calls Try.prog 11 #[.pointer (some ⟨hb, 0, none⟩), .agg #[.int .u8 kd, .int .i64 a, .int .i64 b, .int .i64 c, .int .i64 d]] w (Acted (Did False 0 hb L s w A k)) := by
  obtain ⟨hr0, hz0, hn0⟩ := do_in hr (.cells #[.int .u8 kd, .int .i64 a, .int .i64 b, .int .i64 c, .int .i64 d] 33)
  have HW := Lib.hid hr
  have HR := Lib.hid hr0
  have HZ := Lib.hid (And.intro hz0 hn0)
  have HG := Lib.hid hG
  have HK := Lib.hid hk
  clear hr hr0 hz0 hn0 hG hk
  go_enter Try.func11, Try.ntmps11
  go_wp2_with (first | (go_at_call 23; refine (Whole_any HR.out HG.out HK.out).mono ?_; rintro e w1 ⟨x, rfl, hd⟩; have H1 := Lib.hid hd.did; clear hd) | (go_at_call 25; refine only_r.mono ?_; rintro e w2 ⟨rfl, hf⟩; have hz := zero4_of (box_keep (did_block H1.out HZ.out.1 HZ.out.2) hf); have H2 := Lib.hid (And.intro hf hz); obtain ⟨_, c0, c1, c2, c3, z0, z1, z2, z3⟩ := hz; clear hf))
  obtain ⟨r0, r1, r2, r3⟩ := (H2.out.2).read 0 0 0 x
  unfold put4 at r0 r1 r2 r3
  refine ⟨rfl, .agg #[.int .i64 0, .int .i64 0, .int .i64 0, .int .i64 x], ?_, _, _, _, _, rfl, did_put HW.out H1.out H2.out.1 rfl⟩
  simp [results, Try.results11, go_sem, r0, r1, r2, r3]

/-- Any act. -/
theorem do_any {hb : Nat} {L : Lay} {s : HS} {w : World} {A : AHeap} {k : Nat} {kd a b c d : Int} (hr : HRep w hb L s) (hG : Good s A k) (hk : k + 1 ≤ 100000) (h1 : 0 ≤ kd) :
    Calls Try.prog 11 #[.pointer (some ⟨hb, 0, none⟩), .agg #[.int .u8 kd, .int .i64 a, .int .i64 b, .int .i64 c, .int .i64 d]] w (Acted (Did (kd % 15 ≠ 12 ∧ kd % 15 ≠ 14) (if kd % 15 = 2 then askedOf c d else 0) hb L s w A k)) := by
  have e := Int.tmod_eq_emod_of_nonneg (b := 15) h1
  have hc : kd.tmod 15 = 0 ∨ kd.tmod 15 = 1 ∨ kd.tmod 15 = 2 ∨ kd.tmod 15 = 3 ∨ kd.tmod 15 = 4 ∨ kd.tmod 15 = 5 ∨ kd.tmod 15 = 6 ∨ kd.tmod 15 = 7 ∨ kd.tmod 15 = 8 ∨ kd.tmod 15 = 9 ∨ kd.tmod 15 = 10 ∨ kd.tmod 15 = 11 ∨ kd.tmod 15 = 12 ∨ kd.tmod 15 = 13 ∨ kd.tmod 15 = 14 := by omega
  rcases hc with hd | hd | hd | hd | hd | hd | hd | hd | hd | hd | hd | hd | hd | hd | hd
  · refine (doh_0 (a := a) (b := b) (c := c) (d := d) hr hG hk hd).mono ?_
    rintro e' w' ⟨n0, n1, n2, x, rfl, h⟩
    refine ⟨n0, n1, n2, x, rfl, ?_⟩
    rw [if_neg (by omega)]
    exact h.mono (fun _ => trivial)
  · refine (doh_1 (a := a) (b := b) (c := c) (d := d) hr hG hk hd).mono ?_
    rintro e' w' ⟨n0, n1, n2, x, rfl, h⟩
    refine ⟨n0, n1, n2, x, rfl, ?_⟩
    rw [if_neg (by omega)]
    exact h.mono (fun _ => trivial)
  · refine (doh_2 (a := a) (b := b) (c := c) (d := d) hr hG hk hd).mono ?_
    rintro e' w' ⟨n0, n1, n2, x, rfl, h⟩
    refine ⟨n0, n1, n2, x, rfl, ?_⟩
    rw [if_pos (by omega)]
    exact h.mono (fun _ => trivial)
  · refine (doh_3 (a := a) (b := b) (c := c) (d := d) hr hG hk hd).mono ?_
    rintro e' w' ⟨n0, n1, n2, x, rfl, h⟩
    refine ⟨n0, n1, n2, x, rfl, ?_⟩
    rw [if_neg (by omega)]
    exact h.mono (fun _ => trivial)
  · refine (doh_4 (a := a) (b := b) (c := c) (d := d) hr hG hk hd).mono ?_
    rintro e' w' ⟨n0, n1, n2, x, rfl, h⟩
    refine ⟨n0, n1, n2, x, rfl, ?_⟩
    rw [if_neg (by omega)]
    exact h.mono (fun _ => trivial)
  · refine (doh_5 (a := a) (b := b) (c := c) (d := d) hr hG hk hd).mono ?_
    rintro e' w' ⟨n0, n1, n2, x, rfl, h⟩
    refine ⟨n0, n1, n2, x, rfl, ?_⟩
    rw [if_neg (by omega)]
    exact h.mono (fun _ => trivial)
  · refine (doh_6 (a := a) (b := b) (c := c) (d := d) hr hG hk hd).mono ?_
    rintro e' w' ⟨n0, n1, n2, x, rfl, h⟩
    refine ⟨n0, n1, n2, x, rfl, ?_⟩
    rw [if_neg (by omega)]
    exact h.mono (fun _ => trivial)
  · refine (doh_7 (a := a) (b := b) (c := c) (d := d) hr hG hk hd).mono ?_
    rintro e' w' ⟨n0, n1, n2, x, rfl, h⟩
    refine ⟨n0, n1, n2, x, rfl, ?_⟩
    rw [if_neg (by omega)]
    exact h.mono (fun _ => trivial)
  · refine (doh_8 (a := a) (b := b) (c := c) (d := d) hr hG hk hd).mono ?_
    rintro e' w' ⟨n0, n1, n2, x, rfl, h⟩
    refine ⟨n0, n1, n2, x, rfl, ?_⟩
    rw [if_neg (by omega)]
    exact h.mono (fun _ => trivial)
  · refine (doh_9 (a := a) (b := b) (c := c) (d := d) hr hG hk hd).mono ?_
    rintro e' w' ⟨n0, n1, n2, x, rfl, h⟩
    refine ⟨n0, n1, n2, x, rfl, ?_⟩
    rw [if_neg (by omega)]
    exact h.mono (fun _ => trivial)
  · refine (doh_10 (a := a) (b := b) (c := c) (d := d) hr hG hk hd).mono ?_
    rintro e' w' ⟨n0, n1, n2, x, rfl, h⟩
    refine ⟨n0, n1, n2, x, rfl, ?_⟩
    rw [if_neg (by omega)]
    exact h.mono (fun _ => trivial)
  · refine (doh_11 (a := a) (b := b) (c := c) (d := d) hr hG hk hd).mono ?_
    rintro e' w' ⟨n0, n1, n2, x, rfl, h⟩
    refine ⟨n0, n1, n2, x, rfl, ?_⟩
    rw [if_neg (by omega)]
    exact h.mono (fun _ => trivial)
  · refine (doh_12 (a := a) (b := b) (c := c) (d := d) hr hG hk hd).mono ?_
    rintro e' w' ⟨n0, n1, n2, x, rfl, h⟩
    refine ⟨n0, n1, n2, x, rfl, ?_⟩
    rw [if_neg (by omega)]
    exact h.mono (fun hq => by omega)
  · refine (doh_13 (a := a) (b := b) (c := c) (d := d) hr hG hk hd).mono ?_
    rintro e' w' ⟨n0, n1, n2, x, rfl, h⟩
    refine ⟨n0, n1, n2, x, rfl, ?_⟩
    rw [if_neg (by omega)]
    exact h.mono (fun _ => trivial)
  · refine (doh_14 (a := a) (b := b) (c := c) (d := d) hr hG hk hd).mono ?_
    rintro e' w' ⟨n0, n1, n2, x, rfl, h⟩
    refine ⟨n0, n1, n2, x, rfl, ?_⟩
    rw [if_neg (by omega)]
    exact h.mono (fun hq => by omega)

end Go.Proofs.Ythjokcjdphempaa
