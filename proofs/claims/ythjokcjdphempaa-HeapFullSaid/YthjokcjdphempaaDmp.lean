/- Dump over a heap in memory, and what keeps a dump; Make's answer; lists of numbers. -/
import Derived.Test.YthjokcjdphempaaFit
import Derived.ChangeSlices
namespace Go.Proofs.Ythjokcjdphempaa
open Go.RowKit Hp Go.Shelf

theorem dump_clo2 {hb hx dx : Nat} {A : AHeap} {φ : Nat → Int} {L : Lay} {s : HS} {G : Areas} {w : World} (g : DGround hb hx dx L s w) (hi : InvG s G φ A) (hz : Sized s A) (hn0 : A.slots.length ≤ 900000) (hNs : A.search.length ≤ 1000000) :
    Calls Try.prog 40 #[.pointer (some ⟨hx, 0, none⟩), .pointer (some ⟨dx, 0, none⟩)] w fun e w' => e = .returned (.tuple #[]) ∧ ∃ L' s' G' sv ov xs base, HRep w' hb L' s' ∧ InvG s' G' φ A ∧ Kept2 A s s' ∧ LeftX (fun k => k = dx) hb L L' w w' ∧ w.heap.size ≤ base ∧ (∀ k, L'.foot hb k → L.foot hb k) ∧
      DumpIn A dx base w' A.search.length sv ov xs := by
  have hslen := hi.rep.slen
  obtain ⟨sa, sc, hs3⟩ := g.rep.slots.shape
  rw [hslen] at hs3
  have lhx := (Array.getElem?_eq_some_iff.1 g.xh).1
  have ldx := (Array.getElem?_eq_some_iff.1 g.xd).1
  have FD : Fr (fun _ => False) w (dumpW w) := (fr_alloc1 _ _).trans (fr_alloc1 _ _) fun _ h => h.elim
  have hrD := g.rep.of_fr FD (fun _ _ h => h)
  have hszD : (dumpW w).heap.size = w.heap.size + 2 := by simp [dumpW]
  refine (dump_core (hb := hb) (hx := hx) (dx := dx) (n0 := A.slots.length) (N := A.search.length) (sv := L.v 3) (J1 := DJ1 hb hx A φ L s w) (J2 := DJ2 hb hx dx A φ L s w) (J3 := DJ3 hb hx dx A φ L s w) (J4 := DJ4 hb hx dx A φ L s w)
    (by omega) (by omega) (cell_of_box g.xh).1 ?_ (fun lv i W h hi' => dj1_step g h hi') ?_ (fun lv i W h hi' => dj2_step g (by omega) h hi') ?_ (fun lv j W h hj => dj3_step g hNs h hj)).mono ?_
  · refine (walk_id hrD hi hz id42 (enters_of Try.func42 (by kernel_rfl) rfl)).mono ?_
    rintro e w1 ⟨L', s', G', φ', lv, rfl, hw, hinv, hl, ho⟩
    obtain ⟨_, _, e3⟩ := hinv.still (.inl rfl)
    subst e3
    obtain ⟨hex, _⟩ := hinv.exact (through_DF A)
    obtain ⟨la, lc, hlv⟩ := hl.shape
    rw [List.length_map] at hlv
    have hcap := hl.caps (by rw [hlv])
    have hlcap : A.search.length ≤ lc := hcap.2.1 |> fun h => by simpa using h
    have hsm : Small s' := ⟨fun k hk => by rw [hw.lens]; have := hz.len k hk; omega⟩
    have hfoot : ∀ k, L'.foot hb k → L.foot hb k := by
      intro k hk
      rcases hk with rfl | ⟨i, hi', hk⟩
      · exact .inl rfl
      · exact .inr ⟨i, hi', by rw [← (hw.base i hi').own]; exact hk⟩
    refine ⟨lv, rfl, ⟨la, lc, hlv, hlcap⟩, w1, L', s', G', ⟨hw, hex, hsm, hl, fun k hk => by have := ho k hk; omega, hfoot⟩, Fr.refl _ _, ?_⟩
    rw [List.take_zero]
    have hm0 : (dumpW w).heap[w.heap.size]? = some (.map #[] 0) := by
      unfold dumpW
      rw [Below.heap_alloc _ _ _ (by simp)]
      exact World.alloc_heap_new w _
    refine ⟨#[], 0, ?_, rfl, fun i x hx => by simp at hx⟩
    rw [hw.fr.block _ (by omega) (fun hf => by have := g.rep.lt hf; omega)]
    exact hm0
  · rintro lv W ⟨w1, L', s', G', hB, hf, hm⟩
    rw [List.take_of_length_le (by simp)] at hm
    have hs1 := hB.walked.fr.size
    have hDW : DTwo hb hx dx A φ L s w lv w1 W L' s' G' W := ⟨hB, hf, hm, Fr.refl _ _⟩
    have hr := hDW.rep g
    obtain ⟨c1, _, _, _⟩ := hDW.cells g
    have hL3 : L'.v 3 = L.v 3 := (hB.walked.base 3 (by omega)).eq g.rep.slots hr.slots hB.walked.slen.symm
    have hdx : W.heap[dx]? = some (.cells #[.slice none 0 0, .slice none 0 0] 38 (0, 0)) := by
      rw [hf.block dx (by omega) (by omega), hB.walked.fr.block dx (by omega) g.ndx, FD.block dx ldx id]; exact g.xd
    refine ⟨c1, by rw [← hL3]; exact hr.c12, ⟨sa, sc, hs3, ?_⟩, w1, W, L', s', G', .slice none 0 0, hDW, hdx, .inl ⟨rfl, by rw [List.take_zero]⟩, fun k hk => by cases hk⟩
    have := (g.rep.slots.caps hs3).2.1
    omega
  · rintro lv W ⟨w1, w2, L', s', G', sv, hD, hdx, hsv, hown⟩
    rw [List.take_of_length_le (by simp)] at hsv
    exact ⟨w1, w2, L', s', G', sv, .slice none 0 0, [], hD, ⟨hdx, hsv, World.ownsRow_nil _ _ _ _, fun k hk => ⟨hown k hk, fun h => by cases h⟩, fun i m h => by omega⟩⟩
  · rintro e w' ⟨rfl, lv, W, ⟨w1, w2, L', s', G', sv, ov, xs, hD, hI⟩, hE⟩
    have hB := hD.base
    have hs1 := hD.w1size
    have hs2 := hD.fr1.size
    refine ⟨rfl, L', s', G', sv, ov, xs, w2.heap.size, (hD.rep g).of_heap hE.1, hB.walked.inv, hB.walked.kept, ⟨?_, fun k hk => .inl (hB.foot k hk)⟩, by omega, hB.foot, hI.of_fr (hE.fr _)⟩
    have F1 := (FD.mono (B' := fun k => L.foot hb k ∨ k = dx) fun _ h => h.elim).trans (hB.walked.fr.mono (B' := fun k => L.foot hb k ∨ k = dx) fun _ h => .inl h) (fun j hj => .inl hj)
    have F2 := F1.trans hD.fr1 (fun j hj => .inr (by omega))
    have F3 := F2.trans hD.fr2 (fun j hj => hj.elim (fun h => .inl (.inr h)) fun h => .inr (by omega))
    exact F3.trans (hE.fr (fun _ => False)) fun _ h => h.elim

/-- A method whose closure lays a result in its box, block rx. -/
theorem methXL {hb g rx : Nat} {lb : Array Value} {w : World} {os : List Obj} {L : Lay} {s : HS} {A : AHeap} {k : Nat} (hr : HRep w hb L s) (hG : Good s A k) (hrx : w.heap.size ≤ rx ∧ rx < w.heap.size + os.length) (hg : ∀ args w, (callFunc g args).run Try.prog w = .ok (.enter g args) w) {R : Int → Lay → HS → World → Prop}
    (H : ∀ Wc, Fr (fun _ => False) (allocs w os) Wc → w.heap.size + os.length + 3 = Wc.heap.size → HRep Wc hb L s → Calls Try.prog g lb Wc fun e W1 => ∃ L1 s1 x, ((x = none ∧ e = .returned (.tuple #[])) ∨ ∃ v, x = some v ∧ e = .panicked (trouble v)) ∧ HRep W1 hb L1 s1 ∧ LeftX (fun j => j = rx) hb L L1 Wc W1 ∧ (s.copied ≤ s1.copied ∧ s1.copied ≤ 1000000000000) ∧ R (x.getD 0) L1 s1 W1) :
    Calls Try.prog 37 #[.pointer (some ⟨hb, 0, none⟩), .func (.func g) #[] lb] (allocs w os) fun e w' => ∃ x W1, e = .returned (.int .i64 x) ∧ ∃ L1 s1, HRep w' hb L1 { s1 with worst := worse s1.worst (s1.copied - s.copied) } ∧ Left hb L L1 w w' ∧ R x L1 s1 W1 ∧ ∀ j, j < W1.heap.size → j ≠ hb → j ≠ w.heap.size + os.length + 1 → w'.heap[j]? = W1.heap[j]? := by
  obtain ⟨f0, f1, _⟩ := allocs_spec os w
  obtain ⟨b1, b2, b3, _⟩ := hG.bounds
  have hr0 := hr.of_fr f0 (fun _ _ h => h)
  have fc := called_fr hb s.copied (allocs w os)
  have hlt := hr.lt (.inl rfl)
  refine (call_any hr0 b1 ⟨b2, by omega⟩ (X := fun j => j = rx) (fun _ h => by omega) hg (M := fun x L1 s1 W1 => R (x.getD 0) L1 s1 W1) ((H _ fc (by rw [called_size]; omega) (hr0.of_fr fc (fun _ _ h => h))).mono ?_)).mono ?_
  · rintro e W1 ⟨L1, s1, x, h1, h2, h3, h4, h5⟩
    exact ⟨L1, s1, x, h1, h2, h3, h4, h5⟩
  · rintro e w' ⟨W1, L1, s1, x, rfl, h1, h2, h3, h4⟩
    refine ⟨_, W1, rfl, L1, s1, h1, ?_, h3, fun j hj hj1 hj2 => h4 j hj hj1 (by omega)⟩
    · refine ⟨(f0.mono (B' := fun k => L.foot hb k) fun _ h => h.elim).trans h2.fr (fun j hj => hj.elim .inl fun e => .inr (by omega)), fun j hj => (h2.foot j hj).imp id fun h => by omega⟩


/-- A dump that worlds keep which leave the blocks from base on alone. -/
structure DumpK (A : AHeap) (base : Nat) (W : World) (a1 : Option Addr) (k1 : Nat) (a2 : Option Addr) (k2 : Nat) : Prop where
  slots : ∀ W' : World, (∀ j, base ≤ j → j < W.heap.size → W'.heap[j]? = W.heap[j]?) → IsSl W' (.slice a1 A.slots.length k1) (A.slots.map (numOf A))
  objs : ∀ W' : World, (∀ j, base ≤ j → j < W.heap.size → W'.heap[j]? = W.heap[j]?) → ObjL W' (.slice a2 (dumpL A).length k2) (dumpL A)

theorem DumpK.keep {A : AHeap} {base : Nat} {W W1 : World} {a1 : Option Addr} {k1 : Nat} {a2 : Option Addr} {k2 : Nat} (h : DumpK A base W a1 k1 a2 k2) (hs : W.heap.size ≤ W1.heap.size) (hk : ∀ j, base ≤ j → j < W.heap.size → W1.heap[j]? = W.heap[j]?) : DumpK A base W1 a1 k1 a2 k2 :=
  ⟨fun W' h' => h.slots W' fun j h1 h2 => (h' j h1 (by omega)).trans (hk j h1 h2), fun W' h' => h.objs W' fun j h1 h2 => (h' j h1 (by omega)).trans (hk j h1 h2)⟩

/-- What Dump leaves: all of the heap lies ahead of where it began, all of the dump behind it. -/
def Dumped (hb : Nat) (L : Lay) (s : HS) (w : World) (A : AHeap) (k : Nat) (a1 : Option Addr) (k1 : Nat) (a2 : Option Addr) (k2 : Nat) (w' : World) : Prop :=
  ∃ L' s', HRep w' hb L' s' ∧ Good s' A k ∧ Left hb L L' w w' ∧ Ran True 0 0 A s s' ∧ s'.copied = s.copied ∧ (∀ j, L'.foot hb j → j < w.heap.size) ∧ DumpK A w.heap.size w' a1 k1 a2 k2

section
variable {hb : Nat} {A : AHeap} {L : Lay} {s : HS} {w : World} {k : Nat}

set_option maxHeartbeats 1000000 in
theorem Dump_any (hr : HRep w hb L s) (hG : Good s A k) :
    Calls Try.prog 13 #[.pointer (some ⟨hb, 0, none⟩)] w fun e w' => ∃ a1 k1 a2 k2, e = .returned (.agg #[.slice a1 A.slots.length k1, .slice a2 (dumpL A).length k2]) ∧ Dumped hb L s w A k a1 k1 a2 k2 w' := by
  obtain ⟨b1, b2, b3, b4, b5, b6⟩ := hG.bounds
  obtain ⟨G, φ, hi⟩ := hG.inv
  have hnsl := hG.nsl
  have hkb := hG.kb
  have hobjs := hG.objs
  have hlt := hr.lt (.inl rfl)
  have hN : A.search.length ≤ 100000 := by have := outAt_length hi.rep.wf A.objs.length; unfold AHeap.search; omega
  have hfits : ∀ m, m ∈ A.search → (A.obj m).refs.length ≤ 4000 ∧ (A.obj m).raws.length ≤ 4000 := fun m hm => (hi.rep.fits m ((mem_search hi.rep.wf).1 hm)).2
  have hlen : (dumpL A).length = A.search.length := by simp [dumpL]
  refine (Dump_w (R := fun x w' => ∃ sv ov xs base, w.heap.size + 5 ≤ base ∧ DumpIn A (w.heap.size + 1) base w' A.search.length sv ov xs ∧ ∃ L' s', HRep w' hb L' s' ∧ Good s' A k ∧ Left hb L L' w w' ∧ Ran True 0 0 A s s' ∧ s'.copied = s.copied ∧ (∀ j, L'.foot hb j → j < w.heap.size)) ((methXL (rx := w.heap.size + 1) (os := [.cells #[.pointer (some ⟨hb, 0, none⟩)] 23, .cells #[.slice none 0 0, .slice none 0 0] 38]) hr hG (by simp) (enters_of Try.func40 (by kernel_rfl) rfl)
    (R := fun x L1 s1 W1 => (∀ j, L1.foot hb j → j < w.heap.size) ∧ Good s1 A k ∧ Ran True 0 0 A s (paused s s1) ∧ s1.copied = s.copied ∧ ∃ sv ov xs base, w.heap.size + 5 ≤ base ∧ DumpIn A (w.heap.size + 1) base W1 A.search.length sv ov xs) ?_).mono ?_)).mono ?_
  · intro Wc hf hcs hrc
    have x0 : Wc.heap[w.heap.size]? = some (.cells #[.pointer (some ⟨hb, 0, none⟩)] 23 (0, 0)) := boxo_at hf 0 rfl
    have x1 : Wc.heap[w.heap.size + 1]? = some (.cells #[.slice none 0 0, .slice none 0 0] 38 (0, 0)) := boxo_at hf 1 rfl
    simp at hcs
    refine (dump_clo2 (hx := w.heap.size) (dx := w.heap.size + 1) ⟨hrc, x0, x1, foot_lt hr (by omega), foot_lt hr (by omega), by omega⟩ hi hG.sized (by omega) (by omega)).mono ?_
    rintro e W1 ⟨rfl, L', s', G', sv, ov, xs, base, h1, h2, h3, h4, h5, hft, h6⟩
    exact ⟨L', s', none, .inl ⟨rfl, rfl⟩, h1, h4, by rw [h3.copied]; exact ⟨Int.le_refl _, by omega⟩, fun j hj => hr.lt (hft j hj), hG.kept h2 h3, h3.idle.ran hG.y0, h3.copied, sv, ov, xs, base, by omega, h6⟩
  · rintro e w' ⟨x, W1, rfl, L1, s1, h1, h2, ⟨hft, h3, h4, h5, sv, ov, xs, base, h6, h7⟩, h8⟩
    have h9 := h7.of_block (W' := w') (fun j hj hjl => h8 j hjl (by rcases hj with hj | hj <;> omega) (by simp; rcases hj with hj | hj <;> omega))
    obtain ⟨a1, k1, e1⟩ := h9.slots.shape
    obtain ⟨a2, k2, e2⟩ := (h9.objL hfits).shape
    have hx := h9.at_dx
    rw [e1, e2] at hx
    exact ⟨x, a1, (A.slots.map (numOf A)).length, k1, a2, (dumpL A).length, k2, rfl, by simp only [World.cell?, hx]; rfl, by simp only [World.cell?, hx]; rfl, by simp [World.frozen?, hx], by simp [World.frozen?, hx], sv, ov, xs, base, h6, h9, L1, _, h1, h3.worst _, h2, h4, h5, hft⟩
  · rintro e w' ⟨W, x, a1, n1, k1, a2, n2, k2, rfl, ⟨sv, ov, xs, base, h6, h9, hA⟩, c1, c2, hE⟩
    have hx := h9.at_dx
    have hsv : sv = .slice a1 n1 k1 := by simp [World.cell?, hx] at c1; exact c1
    have hov : ov = .slice a2 n2 k2 := by simp [World.cell?, hx] at c2; exact c2
    have hh : w'.heap = W.heap := by
      rw [hE.1]
      apply Array.ext_getElem?
      intro i
      by_cases e : i = w.heap.size + 1
      · subst e
        rw [hsv, hov] at hx
        rw [setCell_block _ _ 1 _ (setCell_block W _ 0 _ hx), hx]; rfl
      · rw [setCell_other _ _ _ _ e, setCell_other _ _ _ _ e]
    have h10 := h9.of_block (W' := w') (fun j _ _ => by rw [hh])
    have s1 := h10.slots
    have o1 := h10.objL hfits
    obtain ⟨a1', k1', e1⟩ := s1.shape
    obtain ⟨a2', k2', e2⟩ := o1.shape
    rw [hsv] at e1
    rw [hov] at e2
    cases e1
    cases e2
    have key : ∀ W' : World, (∀ j, w.heap.size ≤ j → j < w'.heap.size → W'.heap[j]? = w'.heap[j]?) → DumpIn A (w.heap.size + 1) base W' A.search.length sv ov xs := fun W' h' => h10.of_block fun j hj hjl => h' j (by omega) hjl
    obtain ⟨L', s', q1, q2, q3, q4, q5, q6⟩ := hA
    refine ⟨a1, k1, a2, k2, by rw [List.length_map], L', s', q1.of_heap hh, q2, ⟨⟨hE.2.1.trans q3.fr.os, hE.2.2.1.trans q3.fr.tape, hE.2.2.2.trans q3.fr.output, by rw [hh]; exact q3.fr.size, fun j hj hn => by rw [hh]; exact q3.fr.block j hj hn⟩, q3.foot⟩, q4, q5, q6, ⟨fun W' h' => ?_, fun W' h' => ?_⟩⟩
    · have := (key W' h').slots
      rw [hsv, List.length_map] at this
      exact this
    · have := (key W' h').objL hfits
      rw [hov] at this
      exact this
end
end Go.Proofs.Ythjokcjdphempaa

namespace Go.Proofs.Ythjokcjdphempaa
open Go.RowKit Hp Go.Shelf Go.ChangeShapes Go.ChangeAt Go.WideShapes Go.Deep

section
variable {hb : Nat} {L : Lay} {s : HS} {w Wc : World} {A : AHeap} {k : Nat}

set_option maxHeartbeats 1000000 in
/-- Make, and what it was asked for if it has been done. -/
theorem Make_val (hr : HRep w hb L s) (hG : Good s A k) (hk : k + 1 ≤ 100000) {to tag refs raws : Int} :
    Calls Try.prog 14 #[.pointer (some ⟨hb, 0, none⟩), .int .i64 to, .int .i64 tag, .int .i64 refs, .int .i64 raws] w fun e w' => ∃ x, e = .returned (.int .i64 x) ∧ Did True (askedOf refs raws) hb L s w A k x w' ∧ (x = 0 → 0 ≤ refs ∧ refs ≤ 4000 ∧ 0 ≤ raws ∧ raws ≤ 4000) := by
  by_cases hv : 0 ≤ refs ∧ refs ≤ 4000 ∧ 0 ≤ raws ∧ raws ≤ 4000
  · refine (Make_do hr hG hk).mono ?_
    rintro e w' ⟨x, rfl, hd⟩
    exact ⟨x, rfl, hd, fun _ => hv⟩
  obtain ⟨b1, b2, b3, b4, b5, b6⟩ := hG.bounds
  have hsl := hG.sl
  refine Make_w (R := fun x w' => Did True (askedOf refs raws) hb L s w A k x w' ∧ (x = 0 → 0 ≤ refs ∧ refs ≤ 4000 ∧ 0 ≤ raws ∧ raws ≤ 4000)) ((meth0 (os := [.cells #[.pointer (some ⟨hb, 0, none⟩)] 23, .cells #[.int .i64 to] 3, .cells #[.int .i64 tag] 3, .cells #[.int .i64 refs] 3, .cells #[.int .i64 raws] 3]) hr hG (enters_of Try.func49 (by kernel_rfl) rfl)
    (R := fun x s1 => Rc True (askedOf refs raws) A k s x s1 ∧ x ≠ 0) ?_).mono ?_)
  · intro Wc hf hrc
    have x0 := box_at hf 0 rfl
    have x1 := box_at hf 1 rfl
    have x2 := box_at hf 2 rfl
    have x3 := box_at hf 3 rfl
    have x4 := box_at hf 4 rfl
    have no : ∀ (v : Int) (e : Ending) (W1 : World), v ≠ 0 → e = .panicked (trouble v) → Fr (fun _ => False) Wc W1 → ∃ L1 s1 x, ((x = none ∧ e = .returned (.tuple #[])) ∨ ∃ v, x = some v ∧ e = .panicked (trouble v)) ∧ HRep W1 hb L1 s1 ∧ Left hb L L1 Wc W1 ∧ (s.copied ≤ s1.copied ∧ s1.copied ≤ 1000000000000) ∧ Rc True (askedOf refs raws) A k s (x.getD 0) s1 ∧ x.getD 0 ≠ 0 := by
      intro v e W1 hv he hf
      exact ⟨L, s, some v, .inr ⟨v, rfl, he⟩, hrc.of_fr hf (fun _ _ h => h), ⟨hf.mono fun _ h => h.elim, fun _ h => .inl h⟩, ⟨Int.le_refl _, by omega⟩, hG.rc hG hk (Idle.refl s), hv⟩
    by_cases hin : inSlots s [to] = true
    · obtain ⟨h0, h1⟩ := in_slots1.1 hin
      obtain ⟨i, rfl⟩ : ∃ i : Nat, to = i := ⟨to.toNat, by omega⟩
      by_cases htag : tag < 0 ∨ 65535 < tag
      · refine (make_no2 hrc (by omega) (cell_of_box x0).1 (cell_of_box x1).1 (cell_of_box x2).1 (by omega) htag).mono ?_
        rintro e W1 ⟨rfl, rfl⟩
        exact no 1 _ _ (by decide) rfl (fr_alloc1 _ _)
      · refine (make_no3 hrc (by omega) (cell_of_box x0).1 (cell_of_box x1).1 (cell_of_box x2).1 (cell_of_box x3).1 (cell_of_box x4).1 (by omega) ⟨by omega, by omega⟩ (by omega)).mono ?_
        rintro e W1 ⟨rfl, rfl⟩
        exact no 3 _ _ (by decide) rfl (fr_alloc1 _ _)
    · refine (make_no1 hrc (by omega) (cell_of_box x0).1 (cell_of_box x1).1 (by simpa using hin)).mono ?_
      rintro e W1 ⟨rfl, rfl⟩
      exact no 1 _ _ (by decide) rfl (fr_alloc1 _ _)
  · rintro e w' ⟨x, rfl, L1, s1, h1, h2, h3, h4⟩
    exact ⟨x, rfl, did_of h1 h2 h3, fun h => absurd h h4⟩
end

set_option maxRecDepth 100000 in
set_option maxHeartbeats 2000000 in
theorem doh_2v {hb : Nat} {L : Lay} {s : HS} {w : World} {A : AHeap} {k : Nat} {kd a b c d : Int} (hr : HRep w hb L s) (hG : Good s A k) (hk : k + 1 ≤ 100000) (hkd : kd.tmod 15 = 2) :
    Calls Try.prog 11 #[.pointer (some ⟨hb, 0, none⟩), .agg #[.int .u8 kd, .int .i64 a, .int .i64 b, .int .i64 c, .int .i64 d]] w (Acted fun x w' => Did True (askedOf c d) hb L s w A k x w' ∧ (x = 0 → 0 ≤ c ∧ c ≤ 4000 ∧ 0 ≤ d ∧ d ≤ 4000)) := by
  obtain ⟨hr0, hz0, hn0⟩ := do_in hr (.cells #[.int .u8 kd, .int .i64 a, .int .i64 b, .int .i64 c, .int .i64 d] 33)
  have HW := Lib.hid hr
  have HR := Lib.hid hr0
  have HZ := Lib.hid (And.intro hz0 hn0)
  have HG := Lib.hid hG
  have HK := Lib.hid hk
  clear hr hr0 hz0 hn0 hG hk
  go_enter Try.func11, Try.ntmps11
  go_wp2_with (first | (go_at_call 14; refine (Make_val HR.out HG.out HK.out).mono ?_; rintro e w1 ⟨x, rfl, hd, hx⟩; have H1 := Lib.hid hd; have HX := Lib.hid hx; clear hd hx) | (go_at_call 25; refine only_r.mono ?_; rintro e w2 ⟨rfl, hf⟩; have hz := zero4_of (box_keep (did_block H1.out HZ.out.1 HZ.out.2) hf); have H2 := Lib.hid (And.intro hf hz); obtain ⟨_, c0, c1, c2, c3, z0, z1, z2, z3⟩ := hz; clear hf))
  obtain ⟨r0, r1, r2, r3⟩ := (H2.out.2).read 0 0 0 x
  unfold put4 at r0 r1 r2 r3
  refine ⟨rfl, .agg #[.int .i64 0, .int .i64 0, .int .i64 0, .int .i64 x], ?_, _, _, _, _, rfl, did_put HW.out H1.out H2.out.1 rfl, HX.out⟩
  simp [results, Try.results11, go_sem, r0, r1, r2, r3]


/-- Any act, and what was asked for if an object has been made. -/
theorem do_val {hb : Nat} {L : Lay} {s : HS} {w : World} {A : AHeap} {k : Nat} {kd a b c d : Int} (hr : HRep w hb L s) (hG : Good s A k) (hk : k + 1 ≤ 100000) (h1 : 0 ≤ kd) :
    Calls Try.prog 11 #[.pointer (some ⟨hb, 0, none⟩), .agg #[.int .u8 kd, .int .i64 a, .int .i64 b, .int .i64 c, .int .i64 d]] w (Acted fun x w' => Did (kd % 15 ≠ 12 ∧ kd % 15 ≠ 14) (if kd % 15 = 2 then askedOf c d else 0) hb L s w A k x w' ∧ (kd % 15 = 2 → x = 0 → 0 ≤ c ∧ c ≤ 4000 ∧ 0 ≤ d ∧ d ≤ 4000)) := by
  have e := Int.tmod_eq_emod_of_nonneg (b := 15) h1
  by_cases h2 : kd % 15 = 2
  · refine (doh_2v (a := a) (b := b) (c := c) (d := d) hr hG hk (by omega)).mono ?_
    rintro e' w' ⟨n0, n1, n2, x, rfl, h, hx⟩
    refine ⟨n0, n1, n2, x, rfl, ?_, fun _ => hx⟩
    rw [if_pos h2]
    exact h.mono fun _ => trivial
  · refine (do_any hr hG hk h1).mono ?_
    rintro e' w' ⟨n0, n1, n2, x, rfl, h⟩
    exact ⟨n0, n1, n2, x, rfl, h, fun h => absurd h h2⟩

/-- A slice that reads as a list of numbers. -/
def NumsAt (B : Nat) (w : World) (Y : Option Addr) (m : Nat) : Prop :=
  0 < m → ∃ b off, Y = some ⟨b, off, none⟩ ∧ b < B ∧ ∀ i, i < m → ∃ z : Int, w.cell? ⟨b, off + i, none⟩ = some (.int .i64 z) ∧ -9223372036854775808 ≤ z ∧ z ≤ 9223372036854775807

theorem NumsAt.keep {B : Nat} {w w' : World} {Y : Option Addr} {m : Nat} (h : NumsAt B w Y m) (hk : ∀ b, b < B → w'.heap[b]? = w.heap[b]?) : NumsAt B w' Y m := fun h0 => by
  obtain ⟨b, off, e, hb, hi⟩ := h h0
  refine ⟨b, off, e, hb, fun i hin => ?_⟩
  obtain ⟨z, h1, h2⟩ := hi i hin
  exact ⟨z, (cell_of_heap (hk b hb)).trans h1, h2⟩

/-- The reading of a list of numbers. -/
theorem open_nums {H : Type} {enc : TypeId × Value → H} {W : World} {spare : Nat → Bool} {held : Bool} {r : Reach} {b0 : Nat} {v : Value} {d : DataW H} {p : List MemPlace} (hv : Value.okWide Try.prog W r b0 35 v) (h : DataW.Trod enc Try.prog W 0 spare held 35 v d p) :
    ∃ Y m cap, v = .slice Y m cap ∧ NumsAt W.heap.size W Y m := by
  obtain ⟨Y, m, cap, rfl⟩ := WideShapes.okWide_slice Try.underlying35 hv
  refine ⟨Y, m, cap, rfl, ?_⟩
  obtain ⟨fuel, hf⟩ := h
  intro h0
  rcases open_ints Try.underlying35 Try.underlying3 (by kernel_rfl) hf with ⟨hc, _⟩ | ⟨a, len, cap', zs, hc, _, hl, _, hz, _, hi, hw⟩
  · simp [Value.cells] at hc
    omega
  · simp [Value.cells] at hc
    obtain ⟨rfl, rfl, rfl⟩ := hc
    have hnm : m ≤ zs.length := by rw [hz]; split <;> omega
    have hsp : a.spot = none := by
      have c0 := hi 0 (by omega)
      rw [show a.add 0 = a from rfl] at c0
      exact World.cell?_spot c0
    obtain ⟨b, off, sp⟩ := a
    simp at hsp
    subst hsp
    have hadd : ∀ j, (⟨b, off, none⟩ : Addr).add j = ⟨b, off + j, none⟩ := fun j => by
      unfold Addr.add
      split
      · rename_i e; rw [e]; rfl
      · rfl
    refine ⟨b, off, rfl, ?_, fun i hin => ?_⟩
    · have c0 := hi 0 (by omega)
      rw [hadd] at c0
      exact World.block_lt_of_cell? _ _ c0
    · have c0 := hi i (by omega)
      rw [hadd] at c0
      have hm : zs.getD i 0 ∈ zs := by
        rw [List.getD_eq_getElem?_getD, List.getElem?_eq_getElem (by omega)]
        exact List.getElem_mem _
      have := bounds_i64 (hw _ hm)
      exact ⟨_, c0, by omega, by omega⟩

/-- What keeps a dump while the heap goes on: its blocks lie from bs on, and no list of the heap among them. -/
structure DKeep (hb bs : Nat) (wd : World) (L : Lay) (wr : World) : Prop where
  foot : ∀ j, L.foot hb j → j < bs ∨ wd.heap.size ≤ j
  blk : ∀ j, bs ≤ j → j < wd.heap.size → wr.heap[j]? = wd.heap[j]?
  size : wd.heap.size ≤ wr.heap.size

theorem DKeep.left {hb bs : Nat} {wd wr w1 : World} {L L' : Lay} (h : DKeep hb bs wd L wr) (hl : Left hb L L' wr w1) : DKeep hb bs wd L' w1 := by
  have h1 := h.size
  have h2 := hl.fr.size
  refine ⟨fun j hj => ?_, fun j h3 h4 => ?_, by omega⟩
  · rcases hl.foot j hj with h' | h'
    · exact h.foot j h'
    · right; omega
  · rw [hl.fr.block j (by omega) fun hf => by have := h.foot j hf; omega]
    exact h.blk j h3 h4

theorem DKeep.of_fr {hb bs : Nat} {wd wr w1 : World} {L : Lay} (h : DKeep hb bs wd L wr) (hf : Fr (fun _ => False) wr w1) : DKeep hb bs wd L w1 := by
  have h1 := h.size
  have h2 := hf.size
  exact ⟨h.foot, fun j h3 h4 => by rw [hf.block j (by omega) id]; exact h.blk j h3 h4, by omega⟩
end Go.Proofs.Ythjokcjdphempaa
