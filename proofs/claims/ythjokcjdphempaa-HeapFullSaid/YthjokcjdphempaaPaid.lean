/- (*Heap).finish and (*Heap).pay over a heap in memory. -/
import Derived.Test.YthjokcjdphempaaWorked
namespace Go.Proofs.Ythjokcjdphempaa
open Go.RowKit Hp Go.Shelf

theorem Left.drewN {hb : Nat} {L : Lay} {w : World} (n : Nat) : Left hb L L w (w.drewN n) := ⟨⟨rfl, rfl, rfl, Nat.le_refl _, fun _ _ _ => rfl⟩, fun _ h => .inl h⟩

/-- **finish**: a collection that is under way ends. -/
theorem finish_any {hb : Nat} {A : AHeap} {s : HS} {G : Areas} {φ : Nat → Int} {L : Lay} {w : World} (hr : HRep w hb L s) (hi : InvG s G φ A) (hz : Sized s A) (hbig : s.big ≤ 8001) (hwc : s.words + s.copied ≤ 100000000000) :
    Calls Try.prog 64 #[.pointer (some ⟨hb, 0, none⟩)] w fun e w' => e = .returned (.tuple #[]) ∧ ∃ L' s' G' φ' c, Worked hb A (((s.ar (1 - s.now)).length : Int) + 1) L s w w' L' s' G' φ' c ∧ s'.moves = false ∧ s'.todo = [] ∧ s'.ar (1 - s.now) = [] := by
  have hn := hi.rep.now
  cases hm : s.moves with
  | false =>
    refine (finish_idle (hb := hb) (w := w) (by rw [hr.c14, hm])).mono ?_
    rintro e w' ⟨rfl, rfl⟩
    obtain ⟨h1, h2⟩ := hi.idle hm
    refine ⟨rfl, L, s, G, φ, 0, ⟨hr, hi, Same.refl s, by omega, by omega, by omega, by omega, rfl, fun h => (by rw [hm] at h; cases h), rfl, Left.refl _ _ _, rfl⟩, hm, h1, h2⟩
  | true =>
    have hlen := hz.len (1 - s.now) (by omega)
    obtain ⟨a, c, es⟩ := (hr.ar (1 - s.now) (by omega)).shape
    refine finish_core (now := s.now) (n := (s.ar (1 - s.now)).length) (a := a) (c := c) hn (by omega) (by rw [hr.c14, hm]) hr.c11 (by rw [hr.area (by omega), es]) ?_
    intro W h1 h2 h3 h4
    refine (work_any (hr.of_heap h1) hi hm hz hbig hwc ⟨by omega, by omega⟩).mono ?_
    rintro e w' ⟨rfl, L', s', G', φ', k, hw⟩
    have hmv : s'.moves = false := by
      cases hm' : s'.moves with
      | false => rfl
      | true =>
        have h5 := (hw.busy hm').1
        have h6 := hw.sum
        have h7 := hi.sum_le
        omega
    obtain ⟨i1, i2⟩ := hw.inv.idle hmv
    rw [hw.same.now] at i2
    exact ⟨rfl, L', s', G', φ', k, ⟨hw.rep, hw.inv, hw.same, hw.copied, hw.le, hw.sum, hw.now, hw.young, hw.busy, hw.slen, hw.left.of_heap h1 h2 h3 h4, hw.v3⟩, hmv, i1, i2⟩

/-- The words in the area now, and twice those that are still to be copied. -/
def pot (s : HS) : Nat := (s.ar s.now).length + 2 * todoSum s

/-- What pay, and Step behind its checks, leave. -/
structure Paid (hb : Nat) (A : AHeap) (units : Int) (must : Prop) (L : Lay) (s : HS) (w w' : World) (L' : Lay) (s' : HS) (G' : Areas) (φ' : Nat → Int) (c : Nat) : Prop where
  rep : HRep w' hb L' s'
  inv : InvG s' G' φ' A
  same : Same { s with todo := s'.todo, moves := s'.moves, majors := s'.majors, now := s'.now } s'
  copied : s'.copied = s.copied + c
  le : (c : Int) ≤ units + s.big
  room : (c : Int) ≤ s.room
  young : (s'.ar 2).length = (s.ar 2).length
  pots : (pot s' + c = pot s ∧ todoSum s' + c = todoSum s) ∨ ((must ∨ s.room / 2 ≤ ((s.ar s.now).length : Int)) ∧ s.moves = false ∧ pot s' + c ≤ 2 * A.live ∧ todoSum s' + c ≤ A.live)
  slen : s'.slots.length = s.slots.length
  left : Left hb L L' w w'
  lens : ∀ k, k < 3 → (s'.ar k).length ≤ (s.ar k).length + c
  v3 : L'.v 3 = L.v 3

theorem Worked.lens {hb : Nat} {A : AHeap} {units : Int} {L : Lay} {s : HS} {w w' : World} {L' : Lay} {s' : HS} {G' : Areas} {φ' : Nat → Int} {c : Nat} (h : Worked hb A units L s w w' L' s' G' φ' c) : ∀ k, k < 3 → (s'.ar k).length ≤ (s.ar k).length + c := by
  intro k hk
  have hn : s'.now = s.now := h.same.now
  have hn2 := h.inv.rep.now
  by_cases e : k = s.now
  · subst e; rw [h.now]; omega
  · by_cases e2 : k = 2
    · subst e2; rw [h.young]; omega
    · have : k = 1 - s.now := by omega
      subst this
      cases hm : s'.moves with
      | true => rw [(h.busy hm).2]; omega
      | false =>
        have := (h.inv.idle hm).2
        rw [hn] at this
        rw [this]; simp

theorem Worked.paid {hb : Nat} {A : AHeap} {units : Int} {must : Prop} {L : Lay} {s : HS} {w w' : World} {L' : Lay} {s' : HS} {G' : Areas} {φ' : Nat → Int} {c : Nat} (h : Worked hb A units L s w w' L' s' G' φ' c)
    (hsum : (todoSum s : Int) ≤ s.room) : Paid hb A units must L s w w' L' s' G' φ' c := by
  have hs := h.same
  have h1 := h.sum
  have hn : s'.now = s.now := hs.now
  have h2 := h.now
  refine ⟨h.rep, h.inv, ⟨hs.objs, hs.words, hs.worst, hs.minors, rfl, hs.room, hs.young, rfl, rfl, rfl, hs.bound, hs.big⟩, h.copied, h.le, by omega, h.young, .inl ⟨?_, h1⟩, h.slen, h.left, h.lens, h.v3⟩
  unfold pot
  rw [hn]
  omega

theorem Begun.works {hb : Nat} {A : AHeap} {units : Int} {must : Prop} {φ : Nat → Int} {L L1 : Lay} {s s1 : HS} {w w1 w' : World} {G1 : Areas} {L' : Lay} {s' : HS} {G' : Areas} {φ' : Nat → Int} {c : Nat}
    (hb1 : Begun hb A φ L s w w1 L1 s1 G1) (h : Worked hb A units L1 s1 w1 w' L' s' G' φ' c) (hm : s.moves = false) (hidle : s.ar (1 - s.now) = []) (hlive : (A.live : Int) ≤ s.room)
    (hlen : must ∨ s.room / 2 ≤ ((s.ar s.now).length : Int)) : Paid hb A units must L s w w' L' s' G' φ' c := by
  have hs := hb1.same
  have hs' := h.same
  have e1 : s1.now = 1 - s.now := hs.now
  have e2 : s'.now = 1 - s.now := hs'.now.trans e1
  have hbig : s1.big = s.big := hs.big
  have h1 := h.sum
  have h2 := hb1.sum
  have h3 := h.now
  have h4 := hb1.lens
  have h5 := h.le
  have h6 := h.copied
  have h7 := hb1.copied
  refine ⟨h.rep, h.inv, ?_, by omega, by omega, by omega, by rw [h.young, h4], .inr ⟨hlen, hm, ?_, by omega⟩, by rw [h.slen, hb1.slen], hb1.left.trans h.left, fun k hk => by rw [← h4 k]; exact h.lens k hk, h.v3.trans hb1.v3⟩
  · exact ⟨hs'.objs.trans hs.objs, hs'.words.trans hs.words, hs'.worst.trans hs.worst, hs'.minors.trans hs.minors, rfl, hs'.room.trans hs.room, hs'.young.trans hs.young, rfl, rfl, rfl, hs'.bound.trans hs.bound, hs'.big.trans hs.big⟩
  · unfold pot
    rw [e2, ← e1, h3, e1, h4, hidle]
    simp only [List.length_nil]
    omega

theorem Begun.sized {hb : Nat} {A : AHeap} {φ : Nat → Int} {L L1 : Lay} {s s1 : HS} {w w1 : World} {G1 : Areas} (h : Begun hb A φ L s w w1 L1 s1 G1) (hz : Sized s A) : Sized s1 A :=
  ⟨fun k hk => by rw [h.lens]; exact hz.len k hk, hz.count, hz.nslots⟩

/-- **pay**. -/
theorem pay_any {hb : Nat} {A : AHeap} {s : HS} {G : Areas} {φ : Nat → Int} {L : Lay} {w : World} {words : Int} (hr : HRep w hb L s) (hi : InvG s G φ A) (hz : Sized s A) (hbig : s.big ≤ 8001) (hwc : s.words + s.copied ≤ 100000000000)
    (hu : 0 ≤ words ∧ words ≤ 100000000000) :
    Calls Try.prog 61 #[.pointer (some ⟨hb, 0, none⟩), .int .i64 words] w fun e w' => e = .returned (.tuple #[]) ∧ ∃ L' s' G' φ' c, Paid hb A (4 * words) False L s w w' L' s' G' φ' c := by
  have hn := hi.rep.now
  have hroom := hi.room1
  have hroom2 := hi.room2
  have hlen := hz.len s.now (by omega)
  obtain ⟨a, c, es⟩ := (hr.ar s.now (by omega)).shape
  cases hm : s.moves with
  | true =>
    refine pay_busy ⟨hu.1, by omega⟩ (by rw [hr.c14, hm]) ?_
    intro n
    refine (work_any (w := w.drewN n) (hr.of_heap rfl) hi hm hz hbig hwc ⟨by omega, by omega⟩).mono ?_
    rintro e w' ⟨rfl, L', s', G', φ', k, hw⟩
    have hp := hw.paid (must := False) hi.sum
    exact ⟨rfl, L', s', G', φ', k, { hp with left := (Left.drewN n).trans hp.left }⟩
  | false =>
    have hidle := hi.idle hm
    by_cases hlt : ((s.ar s.now).length : Int) < s.room / 2
    · refine (pay_idle (now := s.now) (n := (s.ar s.now).length) (words := words) hn (by omega) ⟨by omega, hroom2⟩ (by rw [hr.c14, hm]) hr.c11 (by rw [hr.area (by omega), es]) hr.c6 hlt).mono ?_
      rintro e w' ⟨rfl, k, rfl⟩
      exact ⟨rfl, L, s, G, φ, 0, ⟨hr.of_heap rfl, hi, Same.refl s, by omega, by omega, by omega, rfl, .inl ⟨rfl, rfl⟩, rfl, Left.drewN k, fun _ _ => Nat.le_refl _, rfl⟩⟩
    · refine pay_begins (now := s.now) (n := (s.ar s.now).length) (room := s.room) hn (by omega) ⟨hu.1, by omega⟩ ⟨by omega, hroom2⟩ (by rw [hr.c14, hm]) hr.c11 (by rw [hr.area (by omega), es]) hr.c6 (by omega)
        (M := fun W => ∃ L1 s1 G1, Begun hb A φ L s w W L1 s1 G1) ?_ ?_
      · intro k
        refine (began_any (w := w.drewN k) (hr.of_heap rfl) hi hz hm).mono ?_
        rintro e w' ⟨rfl, L1, s1, G1, h1⟩
        exact ⟨rfl, L1, s1, G1, { h1 with left := (Left.drewN k).trans h1.left }⟩
      · rintro w1 ⟨L1, s1, G1, h1⟩
        have hm1 : s1.moves = true := h1.same.moves
        refine ⟨by rw [h1.rep.c14, hm1], (work_any h1.rep h1.inv hm1 (h1.sized hz) (by rw [show s1.big = s.big from h1.same.big]; exact hbig) (by rw [show s1.words = s.words from h1.same.words, h1.copied]; exact hwc) ⟨by omega, by omega⟩).mono ?_⟩
        rintro e w' ⟨rfl, L', s', G', φ', k, hw⟩
        exact ⟨rfl, L', s', G', φ', k, h1.works hw hm hidle.2 hi.live (.inr (by omega))⟩
end Go.Proofs.Ythjokcjdphempaa
