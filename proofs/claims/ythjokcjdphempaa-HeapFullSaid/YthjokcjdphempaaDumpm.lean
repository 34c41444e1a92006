/- Dump over a heap in memory: the method. -/
import Derived.Test.YthjokcjdphempaaMaken
import Derived.Test.YthjokcjdphempaaSame
namespace Go.Proofs.Ythjokcjdphempaa
open Go.RowKit Hp Go.Shelf

set_option maxRecDepth 100000 in
set_option maxHeartbeats 1000000 in
theorem Dump_w {hp : Option Addr} {w : World} {R : Int → World → Prop}
    (H : Calls Try.prog 37 #[.pointer hp, .func (.func 40) #[] #[.pointer (some ⟨w.heap.size, 0, none⟩), .pointer (some ⟨w.heap.size + 1, 0, none⟩)]] ((w.alloc (.cells #[.pointer hp] 23)).alloc (.cells #[.slice none 0 0, .slice none 0 0] 38)) fun e w' =>
      ∃ x a1 n1 k1 a2 n2 k2, e = .returned (.int .i64 x) ∧ w'.cell? ⟨w.heap.size + 1, 0, none⟩ = some (.slice a1 n1 k1) ∧ w'.cell? ⟨w.heap.size + 1, 1, none⟩ = some (.slice a2 n2 k2) ∧ w'.frozen? ⟨w.heap.size + 1, 0, none⟩ = false ∧ w'.frozen? ⟨w.heap.size + 1, 1, none⟩ = false ∧ R x w') :
    Calls Try.prog 13 #[.pointer hp] w fun e w' => ∃ W x a1 n1 k1 a2 n2 k2, e = .returned (.agg #[.slice a1 n1 k1, .slice a2 n2 k2]) ∧ R x W ∧ W.cell? ⟨w.heap.size + 1, 0, none⟩ = some (.slice a1 n1 k1) ∧ W.cell? ⟨w.heap.size + 1, 1, none⟩ = some (.slice a2 n2 k2) ∧
      Eqw ((W.setCell ⟨w.heap.size + 1, 0, none⟩ (.slice a1 n1 k1)).setCell ⟨w.heap.size + 1, 1, none⟩ (.slice a2 n2 k2)) w' := by
  have hmf : ∀ (fn : Fn) (first cap : Array Value) (w : World), (Instr.makeFunc fn first cap).run Try.prog w = .ok (.func fn first cap) w := fun _ _ _ _ => rfl
  have HH := Lib.hid H
  clear H
  go_enter Try.func13, Try.ntmps13
  go_wp2_with (go_at_call 37; refine HH.out.mono ?_; rintro e w9 ⟨x, a1, n1, k1, a2, n2, k2, rfl, h1, h2, h3, h4, hx⟩; have HX := Lib.hid hx; clear hx)
  have hc1 : ((w9.setCell ⟨w.heap.size + 1, 0, none⟩ (.slice a1 n1 k1)).setCell ⟨w.heap.size + 1, 1, none⟩ (.slice a2 n2 k2)).cell? ⟨w.heap.size + 1, 0, none⟩ = some (.slice a1 n1 k1) := by
    rw [World.cell?_setCell_other _ _ _ _ (by simp)]; exact World.cell?_setCell_same _ _ _ h1
  have hc2 : ((w9.setCell ⟨w.heap.size + 1, 0, none⟩ (.slice a1 n1 k1)).setCell ⟨w.heap.size + 1, 1, none⟩ (.slice a2 n2 k2)).cell? ⟨w.heap.size + 1, 1, none⟩ = some (.slice a2 n2 k2) := by
    refine World.cell?_setCell_same _ _ _ (u := .slice a2 n2 k2) ?_
    rw [World.cell?_setCell_other _ _ _ _ (by simp)]; exact h2
  refine ⟨rfl, _, ?_, w9, x, a1, n1, k1, a2, n2, k2, rfl, HX.out, h1, h2, rfl, rfl, rfl, rfl⟩
  simp [results, Try.results13, go_sem, hc1, hc2]
/-- The objects of the dump of an abstract heap. -/
def dumpL (A : AHeap) : List (Int × List Int × List Int) := A.search.map fun m => (((A.obj m).tag : Int), (A.obj m).refs.map (numOf A), (A.obj m).raws)

theorem DumpIn.objL {A : AHeap} {dx base : Nat} {W : World} {sv ov : Value} {xs : List Value} (h : DumpIn A dx base W A.search.length sv ov xs) (hf : ∀ m, m ∈ A.search → (A.obj m).refs.length ≤ 4000 ∧ (A.obj m).raws.length ≤ 4000) : ObjL W ov (dumpL A) := by
  have hlen : (dumpL A).length = A.search.length := by simp [dumpL]
  rcases h.row.2 with ⟨e, e0⟩ | ⟨g, cap, cur, e, hbg, hg, hnc, hcm, hcs, htake⟩
  · left
    exact ⟨List.eq_nil_of_length_eq_zero (by omega), none, 0, e⟩
  · right
    refine ⟨g, cap, by rw [hlen]; exact e, by omega, fun i t rs ws hi => ?_⟩
    have hil : i < A.search.length := by rw [← hlen]; exact (List.getElem?_eq_some_iff.1 hi).1
    have hm : A.search[i]? = some A.search[i] := List.getElem?_eq_getElem hil
    obtain ⟨m, hmm⟩ : ∃ m, m = A.search[i] := ⟨_, rfl⟩
    rw [← hmm] at hm
    unfold dumpL at hi
    rw [List.getElem?_map, hm] at hi
    cases hi
    obtain ⟨rv, wv, q1, q2, q3, q4, q5, q6, q7⟩ := (h.objs i m hil hm).ex
    obtain ⟨a1, k1, e1⟩ := q4.shape
    obtain ⟨a2, k2, e2⟩ := q5.shape
    have hc := h.row.cells (g := g) (by rw [e]; rfl)
    have hadd : ∀ j, (⟨g, 0, none⟩ : Addr).add j = ⟨g, j, none⟩ := fun j => by unfold Addr.add; split <;> simp_all
    have c1 := hc _ _ q1
    have c2 := hc _ _ q2
    have c3 := hc _ _ q3
    rw [hadd, Nat.mul_comm] at c1 c2 c3
    rw [e1] at c2 q4
    rw [e2] at c3 q5
    obtain ⟨f1, f2⟩ := hf m (List.mem_of_getElem? hm)
    exact ⟨a1, k1, a2, k2, c1, c2, c3, q4, q5, by simp; omega, by omega⟩

theorem DumpIn.of_block {A : AHeap} {dx base j : Nat} {W W' : World} {sv ov : Value} {xs : List Value} (h : DumpIn A dx base W j sv ov xs) (hb : ∀ k, (base ≤ k ∨ k = dx) → k < W.heap.size → W'.heap[k]? = W.heap[k]?) : DumpIn A dx base W' j sv ov xs where
  at_dx := by rw [hb dx (.inr rfl) (Array.getElem?_eq_some_iff.1 h.at_dx).1]; exact h.at_dx
  slots := h.slots.of_block fun k hk => hb k (.inl (h.sown k hk).1) (h.slots.lt hk)
  row := by
    refine ⟨h.row.1, ?_⟩
    rcases h.row.2 with h1 | ⟨g, cap, cur, e, hbg, hg, hr⟩
    · exact .inl h1
    · exact .inr ⟨g, cap, cur, e, hbg, by rw [hb g (.inl hbg) (Array.getElem?_eq_some_iff.1 hg).1]; exact hg, hr⟩
  sown := h.sown
  objs := fun i m hi hm => by
    obtain ⟨rv, wv, h1, h2, h3, h4, h5, h6, h7⟩ := (h.objs i m hi hm).ex
    exact ⟨rv, wv, h1, h2, h3, h4.of_block fun k hk => hb k (.inl (h6 k hk).1) (h4.lt hk), h5.of_block fun k hk => hb k (.inl (h7 k hk).1) (h5.lt hk), h6, h7⟩

section
variable {hb : Nat} {A : AHeap} {L : Lay} {s : HS} {w : World} {k : Nat}

set_option maxHeartbeats 1000000 in
theorem Dump_yes (hr : HRep w hb L s) (hG : Good s A k) :
    Calls Try.prog 13 #[.pointer (some ⟨hb, 0, none⟩)] w fun e w' => ∃ a1 k1 a2 k2, e = .returned (.agg #[.slice a1 A.slots.length k1, .slice a2 (dumpL A).length k2]) ∧ IsSl w' (.slice a1 A.slots.length k1) (A.slots.map (numOf A)) ∧ ObjL w' (.slice a2 (dumpL A).length k2) (dumpL A) ∧ After hb L s w A k w' := by
  obtain ⟨b1, b2, b3, b4, b5, b6⟩ := hG.bounds
  obtain ⟨G, φ, hi⟩ := hG.inv
  have hnsl := hG.nsl
  have hkb := hG.kb
  have hobjs := hG.objs
  have hlt := hr.lt (.inl rfl)
  have hN : A.search.length ≤ 100000 := by have := outAt_length hi.rep.wf A.objs.length; unfold AHeap.search; omega
  have hfits : ∀ m, m ∈ A.search → (A.obj m).refs.length ≤ 4000 ∧ (A.obj m).raws.length ≤ 4000 := fun m hm => (hi.rep.fits m ((mem_search hi.rep.wf).1 hm)).2
  have hlen : (dumpL A).length = A.search.length := by simp [dumpL]
  refine (Dump_w (R := fun x w' => (∃ sv ov xs base, w.heap.size + 5 ≤ base ∧ DumpIn A (w.heap.size + 1) base w' A.search.length sv ov xs) ∧ After hb L s w A k w') ((methX (rx := w.heap.size + 1) (os := [.cells #[.pointer (some ⟨hb, 0, none⟩)] 23, .cells #[.slice none 0 0, .slice none 0 0] 38]) hr hG (by simp) (enters_of Try.func40 (by kernel_rfl) rfl)
    (R := fun x s1 W1 => Good s1 A k ∧ s1.room = s.room ∧ s1.young = s.young ∧ ∃ sv ov xs base, w.heap.size + 5 ≤ base ∧ DumpIn A (w.heap.size + 1) base W1 A.search.length sv ov xs) ?_).mono ?_)).mono ?_
  · intro Wc hf hcs hrc
    have x0 : Wc.heap[w.heap.size]? = some (.cells #[.pointer (some ⟨hb, 0, none⟩)] 23 (0, 0)) := boxo_at hf 0 rfl
    have x1 : Wc.heap[w.heap.size + 1]? = some (.cells #[.slice none 0 0, .slice none 0 0] 38 (0, 0)) := boxo_at hf 1 rfl
    simp at hcs
    refine (dump_clo (hx := w.heap.size) (dx := w.heap.size + 1) ⟨hrc, x0, x1, foot_lt hr (by omega), foot_lt hr (by omega), by omega⟩ hi hG.sized (by omega) (by omega)).mono ?_
    rintro e W1 ⟨rfl, L', s', G', sv, ov, xs, base, h1, h2, h3, h4, h5, h6⟩
    exact ⟨L', s', none, .inl ⟨rfl, rfl⟩, h1, h4, by rw [h3.copied]; exact ⟨Int.le_refl _, by omega⟩, hG.kept h2 h3, h3.same.room, h3.same.young, sv, ov, xs, base, by omega, h6⟩
  · rintro e w' ⟨x, W1, rfl, L1, s1, h1, h2, ⟨h3, h4, h5, sv, ov, xs, base, h6, h7⟩, h8⟩
    have h9 := h7.of_block (W' := w') (fun j hj hjl => h8 j hjl (by rcases hj with hj | hj <;> omega) (by simp; rcases hj with hj | hj <;> omega))
    obtain ⟨a1, k1, e1⟩ := h9.slots.shape
    obtain ⟨a2, k2, e2⟩ := (h9.objL hfits).shape
    have hx := h9.at_dx
    rw [e1, e2] at hx
    exact ⟨x, a1, (A.slots.map (numOf A)).length, k1, a2, (dumpL A).length, k2, rfl, by simp only [World.cell?, hx]; rfl, by simp only [World.cell?, hx]; rfl, by simp [World.frozen?, hx], by simp [World.frozen?, hx], ⟨sv, ov, xs, base, h6, h9⟩, After.of h1 h2 h3 h4 h5⟩
  · rintro e w' ⟨W, x, a1, n1, k1, a2, n2, k2, rfl, ⟨⟨sv, ov, xs, base, h6, h9⟩, hA⟩, c1, c2, hE⟩
    have hx := h9.at_dx
    have hsv : sv = .slice a1 n1 k1 := by simp [World.cell?, hx] at c1; exact c1
    have hov : ov = .slice a2 n2 k2 := by simp [World.cell?, hx] at c2; exact c2
    have hh : w'.heap = W.heap := by
      rw [hE.1]
      apply Array.ext_getElem?
      intro i
      by_cases e : i = w.heap.size + 1
      · subst e
        rw [hsv, hov] at hx
        rw [setCell_block _ _ 1 _ (setCell_block W _ 0 _ hx), hx]; rfl
      · rw [setCell_other _ _ _ _ e, setCell_other _ _ _ _ e]
    have h10 := h9.of_block (W' := w') (fun j _ _ => by rw [hh])
    have s1 := h10.slots
    have o1 := h10.objL hfits
    obtain ⟨a1', k1', e1⟩ := s1.shape
    obtain ⟨a2', k2', e2⟩ := o1.shape
    rw [hsv] at e1 s1
    rw [hov] at e2 o1
    cases e1
    cases e2
    rw [List.length_map] at s1
    refine ⟨a1, k1, a2, k2, by rw [List.length_map], s1, o1, ?_⟩
    obtain ⟨L', s', q1, q2, q3, q4, q5⟩ := hA
    exact ⟨L', s', q1.of_heap hh, q2, ⟨⟨hE.2.1.trans q3.fr.os, hE.2.2.1.trans q3.fr.tape, hE.2.2.2.trans q3.fr.output, by rw [hh]; exact q3.fr.size, fun j hj hn => by rw [hh]; exact q3.fr.block j hj hn⟩, q3.foot⟩, q4, q5⟩
end
end Go.Proofs.Ythjokcjdphempaa
