/- The function that copies objects out of an area, in the walk of (*Heap).emptied. -/
import Derived.Test.YthjokcjdphempaaZapp
import Derived.Test.YthjokcjdphempaaGj
namespace Go.Proofs.Ythjokcjdphempaa
open Go.RowKit Hp Go.Shelf

set_option maxHeartbeats 1000000 in
theorem move88_stay {hb ab hx a : Nat} {n : Int} {w : World} (h1 : w.cell? ⟨ab, 0, none⟩ = some (.int .i64 a)) (_h2 : w.cell? ⟨hx, 0, none⟩ = some (.pointer (some ⟨hb, 0, none⟩))) (hn : 1 ≤ n) (hfit : n ≤ 4611686018427387904) (hne : aOf n ≠ a) :
    Calls Try.prog 88 #[.int .i64 n, .pointer (some ⟨ab, 0, none⟩), .pointer (some ⟨hx, 0, none⟩)] w fun e w' => e = .returned (.int .i64 n) ∧ w = w' := by
  have HA := Lib.hid (areaOf_any n w hn hfit)
  obtain ⟨x, hxx⟩ : ∃ x, x = aOf n := ⟨_, rfl⟩
  rw [← hxx] at HA hne
  have hne' : ((x : Int) == (a : Int)) = false := by simp; omega
  clear hxx
  go_enter Try.func88, Try.ntmps88
  go_wp2_with (go_at_call 79; refine HA.out.mono ?_; rintro e w' ⟨rfl, rfl⟩)
  go_ret
  exact ⟨rfl, rfl⟩

set_option maxHeartbeats 1000000 in
theorem move88_copy {hb ab hx a : Nat} {n to : Int} {w : World} {M : World → Prop} (h1 : w.cell? ⟨ab, 0, none⟩ = some (.int .i64 a)) (h2 : w.cell? ⟨hx, 0, none⟩ = some (.pointer (some ⟨hb, 0, none⟩))) (hn : 1 ≤ n) (hfit : n ≤ 4611686018427387904) (hne : aOf n = a)
    (HC : Calls Try.prog 84 #[.pointer (some ⟨hb, 0, none⟩), .int .i64 n] w fun e w' => e = .returned (.int .i64 to) ∧ M w') :
    Calls Try.prog 88 #[.int .i64 n, .pointer (some ⟨ab, 0, none⟩), .pointer (some ⟨hx, 0, none⟩)] w fun e w' => e = .returned (.int .i64 to) ∧ M w' := by
  have HA := Lib.hid (areaOf_any n w hn hfit)
  have HC' := Lib.hid HC
  rw [hne] at HA
  clear HC
  go_enter Try.func88, Try.ntmps88
  go_wp2_with (first | (go_at_call 79; refine HA.out.mono ?_; rintro e w' ⟨rfl, rfl⟩) | (go_at_call 84; refine HC'.out.mono ?_; rintro e w' ⟨rfl, hm⟩))
  go_ret
  exact ⟨rfl, hm⟩

theorem words_loc {D : Ptr → Prop} {A : AHeap} {s : HS} {G : Areas} {φ : Nat → Int} (h : Rep D s G φ A) {r : Int} {o : List Int} (hl : Hp.Loc G r o) (h0 : 0 ≤ hd o) : wordsAt s r = o := by
  have hsz := (h.objs _ hl.2.1 o hl.2.2.mem).2.2 h0
  have hh : headAt s r = hd o := (h.first hl).1
  unfold wordsAt
  rw [hh, ← hsz, h.flat _ hl.2.1]
  exact hl.2.2.slice

/-- What is asked of the walk of (*Heap).emptied: the boxes; room ahead. -/
structure Moving (E : WEnv) (a ab hx : Nat) : Prop where
  g : E.g = 88
  lb : E.lb = #[.pointer (some ⟨ab, 0, none⟩), .pointer (some ⟨hx, 0, none⟩)]
  mv : E.mv = some a
  box : E.w0.cell? ⟨ab, 0, none⟩ = some (.int .i64 a)
  box2 : E.w0.cell? ⟨hx, 0, none⟩ = some (.pointer (some ⟨E.hb, 0, none⟩))
  apart : ¬ E.L0.foot E.hb ab ∧ ¬ E.L0.foot E.hb hx
  room : ∃ ad m cap, E.L0.v E.s0.now = .slice ad m cap ∧ (E.s0.ar E.s0.now).length + (E.s0.ar a).length ≤ cap
  copied : 0 ≤ E.s0.copied ∧ E.s0.copied ≤ 500000000000

theorem fr_cell {P : Nat → Prop} {w w' : World} (h : Fr P w w') {b k : Nat} {v : Value} (hc : w.cell? ⟨b, k, none⟩ = some v) (hb : ¬ P b) : w'.cell? ⟨b, k, none⟩ = some v :=
  (cell_of_heap (h.block b (World.block_lt_of_cell? _ _ hc) hb)).trans hc

theorem move88 {E : WEnv} (hE : E.Ok) {a ab hx : Nat} (hm : Moving E a ab hx) : MoveOk E := by
  intro lr D out w L s G φ lv m h hre
  obtain ⟨at1, at2, at3, at4, at5⟩ := obj_at h.inv.rep (h.small hE) hre
  have c1 := fr_cell h.fr hm.box hm.apart.1
  have c2 := fr_cell h.fr hm.box2 hm.apart.2
  rw [hm.g, hm.lb]
  by_cases hat : aOf (φ m) = a
  · obtain ⟨o, G', hl, hh, hol, hmo, hroom, hkeep, hinv⟩ := h.inv.copy hre hm.mv hat
    obtain ⟨ha3, han, hf0, ⟨c, hc1, hc2, hc3⟩, hoth⟩ := h.inv.acc a hm.mv
    have hnow := h.inv.same.now
    have hn2 := h.inv.rep.now
    have hwd : wordsAt s (φ m) = o := words_loc h.inv.rep hl (by rw [hh]; exact hdr_nonneg _ _ _)
    have hcp : 0 ≤ s.copied ∧ s.copied ≤ 1000000000000 := by
      have h0 := hm.copied
      have hs := hE.small a ha3
      omega
    have hcopy := copied_any h.rep at5 at1.fit (h.small hE) at4 at1 hn2 (by rw [hat, hnow]; exact han) hcp
    rw [hwd] at hcopy
    have hkeep' : ∀ k ∈ out, move1 φ m (enc s.now (s.ar s.now).length) k = φ k := hkeep
    refine ⟨enc s.now (s.ar s.now).length, (move88_copy c1 c2 at1.pos at1.fit hat hcopy).mono ?_⟩
    rintro e w1 ⟨rfl, L1, hr1, hleft, hLo, hLn⟩
    have hm1 : move1 φ m (enc s.now (s.ar s.now).length) m = enc s.now (s.ar s.now).length := by simp [move1]
    have haN : aOf (enc s.now (s.ar s.now).length) = s.now := aOf_enc _ (by omega)
    refine ⟨rfl, L1, copyTo s (φ m) o, G', move1 φ m (enc s.now (s.ar s.now).length), hm1.symm, ⟨hr1, hinv, ?_, ?_, ?_⟩, ?_, hkeep', ?_⟩
    · intro i hi
      by_cases e : i = s.now
      · subst e
        obtain ⟨ad, n0, n1, cap, e1, e2⟩ := h.base s.now (by omega)
        obtain ⟨ad', m', cap', f1, f2⟩ := hm.room
        rw [← hnow, e1] at f1
        injection f1 with g1 g2 g3
        subst g1 g3
        have hsl := h.rep.ar s.now (by omega)
        obtain ⟨hn1, _, _⟩ := hsl.caps e2
        have := hLn _ _ _ e2 (by rw [hn1, hnow]; rw [hnow] at hroom; omega)
        exact ⟨_, _, _, _, e1, this⟩
      · rw [hLo i e]; exact h.base i hi
    · exact h.fr.trans hleft.fr fun j hj => .inl (h.foot hE j hj).1
    · have hmm : out.map (move1 φ m (enc s.now (s.ar s.now).length)) = out.map φ := List.map_congr_left hkeep'
      rw [hmm]
      exact h.aux.of_fr hleft.fr fun j hj => (h.foot hE j hj).2
    · intro b hb
      rw [hm.mv] at hb
      cases hb
      rw [hm1, haN, hnow]
      exact fun e => han e.symm
    · intro i hi hia q hq
      have hia := hia a hm.mv
      by_cases h3 : i < 3
      · rw [sl_ar _ h3] at hq ⊢
        rw [sl_ar _ h3]
        by_cases e : i = s.now
        · subst e
          rw [copyTo_ar_now hn2 hl.2.1 (by rw [hat, hnow]; exact han)]
          refine ⟨by simp; omega, ?_⟩
          rw [List.getD_eq_getElem?_getD, List.getElem?_append_left hq, ← List.getD_eq_getElem?_getD]
        · rw [copyTo_ar_other hn2 hl.2.1 h3 (by rw [hat]; exact hia) e]
          exact ⟨hq, rfl⟩
      · have e34 : i = 3 ∨ i = 4 := by omega
        rcases e34 with rfl | rfl
        · have : (copyTo s (φ m) o).sl 3 = s.sl 3 := copyTo_now.2
          rw [this]; exact ⟨hq, rfl⟩
        · have : (copyTo s (φ m) o).sl 4 = s.sl 4 := copyTo_todo
          rw [this]; exact ⟨hq, rfl⟩
  · refine ⟨φ m, (move88_stay c1 c2 at1.pos at1.fit hat).mono ?_⟩
    rintro e w1 ⟨rfl, rfl⟩
    refine ⟨rfl, L, s, G, φ, rfl, h, fun b hb => ?_, fun _ _ => rfl, fun i _ _ q hq => ⟨hq, rfl⟩⟩
    rw [hm.mv] at hb
    cases hb
    exact hat
end Go.Proofs.Ythjokcjdphempaa
