/- The closure of Dump over a heap in memory: put together. -/
import Derived.Test.YthjokcjdphempaaDumpx
namespace Go.Proofs.Ythjokcjdphempaa
open Go.RowKit Hp Go.Shelf

/-- What a walk that moves nothing keeps of a heap's state. -/
structure Kept2 (A : AHeap) (s s' : HS) : Prop where
  same : Same s s'
  copied : s'.copied = s.copied
  lens : ∀ k, (s'.ar k).length = (s.ar k).length
  todo : todoSum s' = todoSum s
  slen : s'.slots.length = s.slots.length

theorem Walked.kept {hb : Nat} {A : AHeap} {L : Lay} {s : HS} {w w' : World} {L' : Lay} {s' : HS} {G' : Areas} {φ' : Nat → Int} (h : Walked hb A L s w w' L' s' G' φ') : Kept2 A s s' := ⟨h.same, h.copied, h.lens, h.todo, h.slen⟩

theorem dump_clo {hb hx dx : Nat} {A : AHeap} {φ : Nat → Int} {L : Lay} {s : HS} {G : Areas} {w : World} (g : DGround hb hx dx L s w) (hi : InvG s G φ A) (hz : Sized s A) (hn0 : A.slots.length ≤ 900000) (hNs : A.search.length ≤ 1000000) :
    Calls Try.prog 40 #[.pointer (some ⟨hx, 0, none⟩), .pointer (some ⟨dx, 0, none⟩)] w fun e w' => e = .returned (.tuple #[]) ∧ ∃ L' s' G' sv ov xs base, HRep w' hb L' s' ∧ InvG s' G' φ A ∧ Kept2 A s s' ∧ LeftX (fun k => k = dx) hb L L' w w' ∧ w.heap.size ≤ base ∧
      DumpIn A dx base w' A.search.length sv ov xs := by
  have hslen := hi.rep.slen
  obtain ⟨sa, sc, hs3⟩ := g.rep.slots.shape
  rw [hslen] at hs3
  have lhx := (Array.getElem?_eq_some_iff.1 g.xh).1
  have ldx := (Array.getElem?_eq_some_iff.1 g.xd).1
  have FD : Fr (fun _ => False) w (dumpW w) := (fr_alloc1 _ _).trans (fr_alloc1 _ _) fun _ h => h.elim
  have hrD := g.rep.of_fr FD (fun _ _ h => h)
  have hszD : (dumpW w).heap.size = w.heap.size + 2 := by simp [dumpW]
  refine (dump_core (hb := hb) (hx := hx) (dx := dx) (n0 := A.slots.length) (N := A.search.length) (sv := L.v 3) (J1 := DJ1 hb hx A φ L s w) (J2 := DJ2 hb hx dx A φ L s w) (J3 := DJ3 hb hx dx A φ L s w) (J4 := DJ4 hb hx dx A φ L s w)
    (by omega) (by omega) (cell_of_box g.xh).1 ?_ (fun lv i W h hi' => dj1_step g h hi') ?_ (fun lv i W h hi' => dj2_step g (by omega) h hi') ?_ (fun lv j W h hj => dj3_step g hNs h hj)).mono ?_
  · refine (walk_id hrD hi hz id42 (enters_of Try.func42 (by kernel_rfl) rfl)).mono ?_
    rintro e w1 ⟨L', s', G', φ', lv, rfl, hw, hinv, hl, ho⟩
    obtain ⟨_, _, e3⟩ := hinv.still (.inl rfl)
    subst e3
    obtain ⟨hex, _⟩ := hinv.exact (through_DF A)
    obtain ⟨la, lc, hlv⟩ := hl.shape
    rw [List.length_map] at hlv
    have hcap := hl.caps (by rw [hlv])
    have hlcap : A.search.length ≤ lc := hcap.2.1 |> fun h => by simpa using h
    have hsm : Small s' := ⟨fun k hk => by rw [hw.lens]; have := hz.len k hk; omega⟩
    have hfoot : ∀ k, L'.foot hb k → L.foot hb k := by
      intro k hk
      rcases hk with rfl | ⟨i, hi', hk⟩
      · exact .inl rfl
      · exact .inr ⟨i, hi', by rw [← (hw.base i hi').own]; exact hk⟩
    refine ⟨lv, rfl, ⟨la, lc, hlv, hlcap⟩, w1, L', s', G', ⟨hw, hex, hsm, hl, fun k hk => by have := ho k hk; omega, hfoot⟩, Fr.refl _ _, ?_⟩
    rw [List.take_zero]
    have hm0 : (dumpW w).heap[w.heap.size]? = some (.map #[] 0) := by
      unfold dumpW
      rw [Below.heap_alloc _ _ _ (by simp)]
      exact World.alloc_heap_new w _
    refine ⟨#[], 0, ?_, rfl, fun i x hx => by simp at hx⟩
    rw [hw.fr.block _ (by omega) (fun hf => by have := g.rep.lt hf; omega)]
    exact hm0
  · rintro lv W ⟨w1, L', s', G', hB, hf, hm⟩
    rw [List.take_of_length_le (by simp)] at hm
    have hs1 := hB.walked.fr.size
    have hDW : DTwo hb hx dx A φ L s w lv w1 W L' s' G' W := ⟨hB, hf, hm, Fr.refl _ _⟩
    have hr := hDW.rep g
    obtain ⟨c1, _, _, _⟩ := hDW.cells g
    have hL3 : L'.v 3 = L.v 3 := (hB.walked.base 3 (by omega)).eq g.rep.slots hr.slots hB.walked.slen.symm
    have hdx : W.heap[dx]? = some (.cells #[.slice none 0 0, .slice none 0 0] 38 (0, 0)) := by
      rw [hf.block dx (by omega) (by omega), hB.walked.fr.block dx (by omega) g.ndx, FD.block dx ldx id]; exact g.xd
    refine ⟨c1, by rw [← hL3]; exact hr.c12, ⟨sa, sc, hs3, ?_⟩, w1, W, L', s', G', .slice none 0 0, hDW, hdx, .inl ⟨rfl, by rw [List.take_zero]⟩, fun k hk => by cases hk⟩
    have := (g.rep.slots.caps hs3).2.1
    omega
  · rintro lv W ⟨w1, w2, L', s', G', sv, hD, hdx, hsv, hown⟩
    rw [List.take_of_length_le (by simp)] at hsv
    exact ⟨w1, w2, L', s', G', sv, .slice none 0 0, [], hD, ⟨hdx, hsv, World.ownsRow_nil _ _ _ _, fun k hk => ⟨hown k hk, fun h => by cases h⟩, fun i m h => by omega⟩⟩
  · rintro e w' ⟨rfl, lv, W, ⟨w1, w2, L', s', G', sv, ov, xs, hD, hI⟩, hE⟩
    have hB := hD.base
    have hs1 := hD.w1size
    have hs2 := hD.fr1.size
    refine ⟨rfl, L', s', G', sv, ov, xs, w2.heap.size, (hD.rep g).of_heap hE.1, hB.walked.inv, hB.walked.kept, ⟨?_, fun k hk => .inl (hB.foot k hk)⟩, by omega, hI.of_fr (hE.fr _)⟩
    have F1 := (FD.mono (B' := fun k => L.foot hb k ∨ k = dx) fun _ h => h.elim).trans (hB.walked.fr.mono (B' := fun k => L.foot hb k ∨ k = dx) fun _ h => .inl h) (fun j hj => .inl hj)
    have F2 := F1.trans hD.fr1 (fun j hj => .inr (by omega))
    have F3 := F2.trans hD.fr2 (fun j hj => hj.elim (fun h => .inl (.inr h)) fun h => .inr (by omega))
    exact F3.trans (hE.fr (fun _ => False)) fun _ h => h.elim
end Go.Proofs.Ythjokcjdphempaa
