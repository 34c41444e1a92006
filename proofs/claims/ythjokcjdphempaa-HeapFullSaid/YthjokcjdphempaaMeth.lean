/- The methods of a heap, over a heap in memory. -/
import Derived.Test.YthjokcjdphempaaDumpy
import Derived.Test.YthjokcjdphempaaWrap
namespace Go.Proofs.Ythjokcjdphempaa
open Go.RowKit Hp Go.Shelf

def allocs (w : World) (os : List Obj) : World := os.foldl (fun W o => W.alloc o) w

theorem allocs_spec (os : List Obj) : ∀ w : World, Fr (fun _ => False) w (allocs w os) ∧ (allocs w os).heap.size = w.heap.size + os.length ∧ ∀ (i : Nat) (o : Obj), os[i]? = some o → (allocs w os).heap[w.heap.size + i]? = some o := by
  induction os with
  | nil => exact fun w => ⟨Fr.refl _ _, rfl, fun i o h => by simp at h⟩
  | cons o os ih =>
    intro w
    obtain ⟨h1, h2, h3⟩ := ih (w.alloc o)
    have hs : (w.alloc o).heap.size = w.heap.size + 1 := by simp
    refine ⟨(fr_alloc1 w o).trans h1 fun _ h => h.elim, ?_, fun i p hp => ?_⟩
    · show (allocs (w.alloc o) os).heap.size = _
      rw [h2, hs]; simp; omega
    · show (allocs (w.alloc o) os).heap[_]? = _
      cases i with
      | zero =>
        simp at hp
        subst hp
        rw [Nat.add_zero, h1.block _ (by omega) id]
        exact World.alloc_heap_new w _
      | succ i =>
        have := h3 i p (by simpa using hp)
        rw [hs] at this
        rw [show w.heap.size + (i + 1) = w.heap.size + 1 + i by omega]
        exact this

/-- A heap that holds the abstract heap A, after k acts. -/
structure Good (s : HS) (A : AHeap) (k : Nat) : Prop where
  inv : ∃ G φ, InvG s G φ A
  big : s.big ≤ 8001
  wc : s.words + s.copied ≤ 400000 * k
  objs : A.objs.length ≤ k
  nsl : A.slots.length ≤ 4096
  bnd : (A.live : Int) ≤ s.bound
  bndr : s.bound ≤ s.room
  obj : 0 ≤ s.objs ∧ s.objs ≤ k
  kb : k ≤ 100000

theorem _root_.Go.Proofs.Ythjokcjdphempaa.Hp.InvG.head {s s' : HS} {G : Areas} {φ : Nat → Int} {A : AHeap} (hi : InvG s G φ A) (h0 : s'.a0 = s.a0) (h1 : s'.a1 = s.a1) (h2 : s'.a2 = s.a2) (h3 : s'.now = s.now) (h4 : s'.slots = s.slots) (h5 : s'.todo = s.todo) (h6 : s'.moves = s.moves) (h7 : s'.big = s.big)
    (h8 : s'.room = s.room) (h9 : s'.young = s.young) (hw : s.words ≤ s'.words) (hc : s'.copied = s.copied) : InvG s' G φ A := by
  have ha : ∀ k, s'.ar k = s.ar k := fun k => by unfold HS.ar; rw [h0, h1, h2]
  have ht : todoSum s' = todoSum s := by unfold todoSum headAt; rw [h5]; simp only [ha]
  exact {
    rep := hi.rep.congr (fun k _ => ha k) h3 h4 h7
    room1 := by rw [h8]; exact hi.room1
    room2 := by rw [h8]; exact hi.room2
    young1 := by rw [h9]; exact hi.young1
    young2 := by rw [h8, h9]; exact hi.young2
    ylen := by rw [ha, h9]; exact hi.ylen
    idle := by rw [h6, h5, h3, ha]; exact hi.idle
    busyN := by rw [h5]; exact hi.busyN
    busyO := by rw [h5, h3]; exact hi.busyO
    busyR := by rw [h6, h5, h3]; exact hi.busyR
    sum := by rw [ht, h8]; exact hi.sum
    words0 := by have := hi.words0; omega
    copied0 := by rw [hc]; exact hi.copied0
    lens := by intro k hk; rw [ha, hc]; have := hi.lens k hk; omega
    live := by rw [h8]; exact hi.live }

theorem Good.worst {s : HS} {A : AHeap} {k : Nat} (h : Good s A k) (v : Int) : Good { s with worst := v } A k := by
  obtain ⟨G, φ, hi⟩ := h.inv
  exact ⟨⟨G, φ, hi.head rfl rfl rfl rfl rfl rfl rfl rfl rfl rfl (Int.le_refl _) rfl⟩, h.big, h.wc, h.objs, h.nsl, h.bnd, h.bndr, h.obj, h.kb⟩

theorem Good.sized {s : HS} {A : AHeap} {k : Nat} (h : Good s A k) : Sized s A := by
  obtain ⟨G, φ, hi⟩ := h.inv
  have := h.wc
  have := h.kb
  have := h.objs
  have := h.nsl
  exact ⟨fun k hk => by have := hi.lens k hk; omega, by omega, by omega⟩

theorem Good.le {s : HS} {A : AHeap} {k k' : Nat} (h : Good s A k) (hk : k ≤ k') (hb : k' ≤ 100000) : Good s A k' :=
  ⟨h.inv, h.big, by have := h.wc; omega, by have := h.objs; omega, h.nsl, h.bnd, h.bndr, ⟨h.obj.1, by have := h.obj.2; omega⟩, hb⟩

theorem Good.bounds {s : HS} {A : AHeap} {k : Nat} (h : Good s A k) : 256 ≤ s.room ∧ 0 ≤ s.copied ∧ s.copied ≤ 40000000000 ∧ 0 ≤ s.words ∧ s.words ≤ 40000000000 ∧ s.slots.length = A.slots.length := by
  obtain ⟨G, φ, hi⟩ := h.inv
  have h1 := hi.words0
  have h2 := hi.copied0
  have h3 := h.wc
  have h4 := h.kb
  exact ⟨hi.room1, h2, by omega, h1, by omega, hi.rep.slen⟩

/-- A method whose closure hands nothing back. -/
theorem meth0 {hb g : Nat} {lb : Array Value} {w : World} {os : List Obj} {L : Lay} {s : HS} {A : AHeap} {k : Nat} (hr : HRep w hb L s) (hG : Good s A k) (hg : ∀ args w, (callFunc g args).run Try.prog w = .ok (.enter g args) w) {R : Int → HS → Prop}
    (H : ∀ Wc, Fr (fun _ => False) (allocs w os) Wc → HRep Wc hb L s → Calls Try.prog g lb Wc fun e W1 => ∃ L1 s1 x, ((x = none ∧ e = .returned (.tuple #[])) ∨ ∃ v, x = some v ∧ e = .panicked (trouble v)) ∧ HRep W1 hb L1 s1 ∧ Left hb L L1 Wc W1 ∧ (s.copied ≤ s1.copied ∧ s1.copied ≤ 1000000000000) ∧ R (x.getD 0) s1) :
    Calls Try.prog 37 #[.pointer (some ⟨hb, 0, none⟩), .func (.func g) #[] lb] (allocs w os) fun e w' => ∃ x, e = .returned (.int .i64 x) ∧ ∃ L1 s1, HRep w' hb L1 { s1 with worst := worse s1.worst (s1.copied - s.copied) } ∧ Left hb L L1 w w' ∧ R x s1 := by
  obtain ⟨f0, _, _⟩ := allocs_spec os w
  obtain ⟨b1, b2, b3, _⟩ := hG.bounds
  have hr0 := hr.of_fr f0 (fun _ _ h => h)
  have fc := called_fr hb s.copied (allocs w os)
  refine (call_any hr0 b1 ⟨b2, by omega⟩ (X := fun _ => False) (fun _ h => h.elim) hg (M := fun x L1 s1 W1 => R (x.getD 0) s1) ((H _ fc (hr0.of_fr fc (fun _ _ h => h))).mono ?_)).mono ?_
  · rintro e W1 ⟨L1, s1, x, h1, h2, h3, h4, h5⟩
    exact ⟨L1, s1, x, h1, h2, h3.x _, h4, h5⟩
  · rintro e w' ⟨W1, L1, s1, x, rfl, h1, h2, h3, _⟩
    refine ⟨_, rfl, L1, s1, h1, ?_, h3⟩
    have := h2.left
    exact Left.trans ⟨f0.mono fun _ h => h.elim, fun _ h => .inl h⟩ this

/-- A method whose closure lays a result in its box, block rx. -/
theorem methX {hb g rx : Nat} {lb : Array Value} {w : World} {os : List Obj} {L : Lay} {s : HS} {A : AHeap} {k : Nat} (hr : HRep w hb L s) (hG : Good s A k) (hrx : w.heap.size ≤ rx ∧ rx < w.heap.size + os.length) (hg : ∀ args w, (callFunc g args).run Try.prog w = .ok (.enter g args) w) {R : Int → HS → World → Prop}
    (H : ∀ Wc, Fr (fun _ => False) (allocs w os) Wc → w.heap.size + os.length + 3 = Wc.heap.size → HRep Wc hb L s → Calls Try.prog g lb Wc fun e W1 => ∃ L1 s1 x, ((x = none ∧ e = .returned (.tuple #[])) ∨ ∃ v, x = some v ∧ e = .panicked (trouble v)) ∧ HRep W1 hb L1 s1 ∧ LeftX (fun j => j = rx) hb L L1 Wc W1 ∧ (s.copied ≤ s1.copied ∧ s1.copied ≤ 1000000000000) ∧ R (x.getD 0) s1 W1) :
    Calls Try.prog 37 #[.pointer (some ⟨hb, 0, none⟩), .func (.func g) #[] lb] (allocs w os) fun e w' => ∃ x W1, e = .returned (.int .i64 x) ∧ ∃ L1 s1, HRep w' hb L1 { s1 with worst := worse s1.worst (s1.copied - s.copied) } ∧ Left hb L L1 w w' ∧ R x s1 W1 ∧ ∀ j, j < W1.heap.size → j ≠ hb → j ≠ w.heap.size + os.length + 1 → w'.heap[j]? = W1.heap[j]? := by
  obtain ⟨f0, f1, _⟩ := allocs_spec os w
  obtain ⟨b1, b2, b3, _⟩ := hG.bounds
  have hr0 := hr.of_fr f0 (fun _ _ h => h)
  have fc := called_fr hb s.copied (allocs w os)
  have hlt := hr.lt (.inl rfl)
  refine (call_any hr0 b1 ⟨b2, by omega⟩ (X := fun j => j = rx) (fun _ h => by omega) hg (M := fun x L1 s1 W1 => R (x.getD 0) s1 W1) ((H _ fc (by rw [called_size]; omega) (hr0.of_fr fc (fun _ _ h => h))).mono ?_)).mono ?_
  · rintro e W1 ⟨L1, s1, x, h1, h2, h3, h4, h5⟩
    exact ⟨L1, s1, x, h1, h2, h3, h4, h5⟩
  · rintro e w' ⟨W1, L1, s1, x, rfl, h1, h2, h3, h4⟩
    refine ⟨_, W1, rfl, L1, s1, h1, ?_, h3, fun j hj hj1 hj2 => h4 j hj hj1 (by omega)⟩
    · refine ⟨(f0.mono (B' := fun k => L.foot hb k) fun _ h => h.elim).trans h2.fr (fun j hj => hj.elim .inl fun e => .inr (by omega)), fun j hj => (h2.foot j hj).imp id fun h => by omega⟩

theorem foot_lt {w : World} {hb : Nat} {L : Lay} {s : HS} (hr : HRep w hb L s) {k : Nat} (hk : w.heap.size ≤ k) : ¬ L.foot hb k := fun h => by have := hr.lt h; omega

theorem boxo_at {w Wc : World} {os : List Obj} (hf : Fr (fun _ => False) (allocs w os) Wc) (i : Nat) {o : Obj} (h : os[i]? = some o) : Wc.heap[w.heap.size + i]? = some o := by
  obtain ⟨_, h2, h3⟩ := allocs_spec os w
  have hi := (List.getElem?_eq_some_iff.1 h).1
  rw [hf.block _ (by omega) id]
  exact h3 i _ h

/-- A box among those that a method has laid. -/
theorem box_at {w Wc : World} {os : List Obj} (hf : Fr (fun _ => False) (allocs w os) Wc) (i : Nat) {v : Value} {t : TypeId} (h : os[i]? = some (.cells #[v] t)) : Wc.heap[w.heap.size + i]? = some (.cells #[v] t (0, 0)) := by
  obtain ⟨_, h2, h3⟩ := allocs_spec os w
  have hi := (List.getElem?_eq_some_iff.1 h).1
  rw [hf.block _ (by omega) id]
  exact h3 i _ h
end Go.Proofs.Ythjokcjdphempaa
