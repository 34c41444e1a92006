/- (*Heap).emptied: all reachable objects of an area are copied, and it is emptied. -/
import Derived.Test.YthjokcjdphempaaEmpty
namespace Go.Proofs.Ythjokcjdphempaa
open Go.RowKit Hp Go.Shelf

theorem setAr_self (s : HS) {k : Nat} (h : k < 3) : s.setAr k (s.ar k) = s := by
  obtain rfl | rfl | rfl : k = 0 ∨ k = 1 ∨ k = 2 := by omega
  all_goals rfl

theorem boxed_fr (hb a : Nat) (w : World) : Fr (fun _ => False) w (boxed hb a w) := ⟨rfl, rfl, rfl, by simp [boxed]; omega, fun k hk _ => boxed_old hk⟩

/-- What (*Heap).emptied leaves. -/
structure Emptied (hb a : Nat) (A : AHeap) (quiet : Prop) (L : Lay) (s : HS) (G : Areas) (φ : Nat → Int) (w w' : World) (L' : Lay) (s' : HS) (G' : Areas) (φ' : Nat → Int) : Prop where
  rep : HRep w' hb L' (s'.setAr a [])
  inv : WInv A (some a) quiet s G φ (DF A) A.search s' G' φ'
  left : Left hb L L' w w'
  v3 : L'.v 3 = L.v 3

theorem base_eq {v v' : Value} {w w' : World} {xs xs' : List Int} (h : SameBase v v') (h1 : IsSl w v xs) (h2 : IsSl w' v' xs') (hl : xs.length = xs'.length) : v' = v := by
  obtain ⟨a, n, n', c, rfl, rfl⟩ := h
  obtain ⟨a1, c1, e1⟩ := h1.shape
  obtain ⟨a2, c2, e2⟩ := h2.shape
  cases e1; cases e2
  rw [hl]

set_option maxHeartbeats 1000000 in
theorem emptied_any {hb a : Nat} {A : AHeap} {quiet : Prop} {s : HS} {G : Areas} {φ : Nat → Int} {L : Lay} {w : World} (hr : HRep w hb L s) (hi : WInv A (some a) quiet s G φ (fun _ => False) [] s G φ) (hz : Sized s A)
    (ha : a < 3) (hna : a ≠ s.now) (hc : 0 ≤ s.copied ∧ s.copied ≤ 500000000000) :
    Calls Try.prog 85 #[.pointer (some ⟨hb, 0, none⟩), .int .i64 a] w fun e w' => ∃ r : Int, e = .returned (.int .i64 r) ∧ ∃ L' s' G' φ', Emptied hb a A quiet L s G φ w w' L' s' G' φ' ∧ r = ((s'.ar s.now).length : Int) - (s.ar s.now).length := by
  have hnow := hi.rep.now
  have hlt : hb < w.heap.size := hr.lt (.inl rfl)
  obtain ⟨na, ncap, en⟩ := (hr.ar s.now (by omega)).shape
  obtain ⟨aa, acap, ea⟩ := (hr.ar a ha).shape
  have hl1 := hz.len s.now (by omega)
  have hl2 := hz.len a ha
  have hrB : HRep (boxed hb a w) hb L s := hr.of_fr (boxed_fr hb a w) (fun _ _ h => h)
  have hsz : (boxed hb a w).heap.size = w.heap.size + 2 := by simp [boxed]
  refine emptied_core (now := s.now) (ln := (s.ar s.now).length) (ncap := ncap) (la := (s.ar a).length) (acap := acap) (na := na) (aa := aa)
    (Gr := fun w1 v' => ∃ W : World, W.heap = (boxed hb a w).heap ∧ W.os = w.os ∧ W.tape = w.tape ∧ W.output = w.output ∧ Grown W w1 (L.v s.now) v' (s.ar s.now) (s.ar a).length)
    (M := fun w3 => ∃ v' L' s' G' φ', HRep w3 hb L' s' ∧ WInv A (some a) quiet s G φ (DF A) A.search s' G' φ' ∧ (∀ i, i < 5 → SameBase ((L.set s.now v').v i) (L'.v i)) ∧ Left hb L (L.set s.now v') w w3 ∧
      w3.cell? ⟨w.heap.size, 0, none⟩ = some (.pointer (some ⟨hb, 0, none⟩)) ∧ w3.cell? ⟨w.heap.size + 1, 0, none⟩ = some (.int .i64 a))
    (R := fun r w' => ∃ L' s' G' φ', Emptied hb a A quiet L s G φ w w' L' s' G' φ' ∧ r = ((s'.ar s.now).length : Int) - (s.ar s.now).length)
    ?_ ?_ ?_ ?_ hnow ha hna (by omega) hlt (hr.cell rfl) (by rw [hr.area (by omega), en]) (by rw [hr.area ha, ea]) (fun k => by simp [World.frozen?, hr.blk])
  · intro W hW h1 h2 h3
    have := grow_any (w := W) ((hrB.of_heap hW).ar s.now (by omega)) (s.ar a).length (by omega)
    rw [en] at this ⊢
    refine this.mono ?_
    rintro e w1 ⟨v', rfl, hg⟩
    exact ⟨v', rfl, W, hW, h1, h2, h3, hg⟩
  · rintro w1 v' ⟨W, hW, _, _, _, hg⟩
    obtain ⟨a', c', e, _⟩ := hg.room
    refine ⟨⟨a', c', e⟩, fun k hk => ?_, ?_⟩
    · have hown : (L.v s.now).ownBlock ≠ some k := by
        intro e
        have hf := ownBlock_foot (hb := hb) (show s.now < 5 by omega) e
        rcases hk with rfl | ⟨hk, _⟩
        · exact hr.off s.now (by omega) e
        · have := hr.lt hf; omega
      have hkl : k < W.heap.size := by
        rw [hW, hsz]
        rcases hk with rfl | ⟨_, hk⟩
        · omega
        · exact hk
      rw [hg.fr.block k hkl hown, hW]
    · have := hg.fr.size
      rw [hW, hsz] at this
      exact this
  · rintro w1 v' ⟨W, hW, o1, o2, o3, hg⟩ W2 hW2 p1 p2 p3
    have hrW : HRep W hb L s := hrB.of_heap hW
    have hown : v'.ownBlock = (L.v s.now).ownBlock ∨ v'.ownBlock = none ∨ ∃ b, v'.ownBlock = some b ∧ W.heap.size ≤ b := hg.own.elim .inl fun h => .inr (.inr h)
    have rep1 := hrW.list (i := s.now) (by omega) (v' := v') (l := s.ar s.now) hg.new hg.fr hown
    rw [setSl_ar _ _ (by omega), setAr_self _ (by omega), cellOf_ar (by omega)] at rep1
    have left1 : Left hb L (L.set s.now v') W (w1.setCell ⟨hb, 8 + s.now, none⟩ v') := HRep.left_list (by omega) _ hg.fr hown
    have rep2 : HRep W2 hb (L.set s.now v') s := rep1.of_heap hW2
    have hfW : Fr (fun _ => False) w W := fr_of_heap (boxed_fr hb a w) hW (by rw [o1]; rfl) (by rw [o2]; rfl) (by rw [o3]; rfl)
    have f0 : Fr (L.foot hb) w (w1.setCell ⟨hb, 8 + s.now, none⟩ v') := (hfW.mono (B' := L.foot hb) fun _ h => h.elim).trans left1.fr fun j hj => .inl hj
    have f1 : Fr (L.foot hb) w W2 := fr_of_heap f0 hW2 p1 p2 p3
    have hfoot1 : ∀ k, (L.set s.now v').foot hb k → L.foot hb k ∨ w.heap.size + 2 ≤ k := fun k hk => (left1.foot k hk).imp_right fun h => by rw [hW, hsz] at h; exact h
    have left2 : Left hb L (L.set s.now v') w W2 := ⟨f1, fun k hk => (hfoot1 k hk).imp_right fun h => by omega⟩
    have hb2 : ∀ k, w.heap.size ≤ k → k < w.heap.size + 2 → W2.heap[k]? = (boxed hb a w).heap[k]? := by
      intro k h1 h2
      rw [hW2, setCell_other _ _ _ _ (by omega), hg.fr.block k (by rw [hW, hsz]; exact h2) (fun e => by have := hr.lt (ownBlock_foot (hb := hb) (show s.now < 5 by omega) e); omega), hW]
    have box0 : W2.cell? ⟨w.heap.size, 0, none⟩ = some (.pointer (some ⟨hb, 0, none⟩)) := by
      rw [cell_of_heap (a := ⟨w.heap.size, 0, none⟩) (hb2 _ (Nat.le_refl _) (by show w.heap.size < _; omega))]
      have : (boxed hb a w).heap[w.heap.size]? = some (.cells #[.pointer (some ⟨hb, 0, none⟩)] 23) := by
        unfold boxed; rw [Below.heap_alloc _ _ _ (by simp)]; exact World.alloc_heap_new _ _
      simp [World.cell?, this]
    have box1 : W2.cell? ⟨w.heap.size + 1, 0, none⟩ = some (.int .i64 a) := by
      rw [cell_of_heap (a := ⟨w.heap.size + 1, 0, none⟩) (hb2 _ (by show w.heap.size ≤ w.heap.size + 1; omega) (by show w.heap.size + 1 < _; omega))]
      have : (boxed hb a w).heap[w.heap.size + 1]? = some (.cells #[.int .i64 a] 3) := by
        unfold boxed; have := World.alloc_heap_new (w.alloc (.cells #[.pointer (some ⟨hb, 0, none⟩)] 23)) (.cells #[.int .i64 a] 3); rwa [World.size_alloc] at this
      simp [World.cell?, this]
    have hnf : ∀ k, w.heap.size ≤ k → k < w.heap.size + 2 → ¬ (L.set s.now v').foot hb k := fun k h1 h2 hk => by
      rcases hfoot1 k hk with h | h
      · have := hr.lt h; omega
      · omega
    have hmove : MoveOk (envAt hb 88 #[.pointer (some ⟨w.heap.size + 1, 0, none⟩), .pointer (some ⟨w.heap.size, 0, none⟩)] A (some a) quiet s G φ (L.set s.now v') W2) := by
      refine move88 (a := a) (ab := w.heap.size + 1) (hx := w.heap.size) ⟨rfl, fun k hk => rep2.lt hk, hz.len, hz.count, hz.nslots, fun b hb => by cases hb; exact ha⟩ ⟨rfl, rfl, rfl, box1, box0, ⟨hnf _ (by omega) (by omega), hnf _ (by omega) (by omega)⟩, ?_, hc⟩
      obtain ⟨a', c', e, h⟩ := hg.room
      exact ⟨a', _, c', by show (L.set s.now v').v s.now = _; rw [Lay.set_same, e], h⟩
    refine (walk_any rep2 hi hz.len hz.count hz.nslots (fun b hb => by cases hb; exact ha) hmove (enters_of Try.func88 (by kernel_rfl) rfl)).mono ?_
    rintro e w3 ⟨L', s', G', φ', lv, rfl, q1, q2, q3, q4, q5, q6⟩
    have hfL : ∀ k, L'.foot hb k → (L.set s.now v').foot hb k := by
      intro k hk
      rcases hk with rfl | ⟨i, hi', hk⟩
      · exact .inl rfl
      · exact .inr ⟨i, hi', by rw [← (q3 i hi').own]; exact hk⟩
    refine ⟨lv, rfl, v', L', s', G', φ', q1, q2, q3, ?_, fr_cell q4 box0 (hnf _ (by omega) (by omega)), fr_cell q4 box1 (hnf _ (by omega) (by omega))⟩
    exact left2.trans ⟨q4, fun k hk => .inl hk⟩
  · rintro w2 ⟨v', L', s', G', φ', q1, q2, q3, q4, q5, q6⟩
    obtain ⟨_, _, _, ⟨c, hc1, hc2, hc3⟩, hoth⟩ := q2.acc a rfl
    have hn' := q2.same.now
    have hf0 := fresh_le (G a)
    have hflat : flen (G a) = (s.ar a).length := by rw [hi.rep.flat a ha]
    obtain ⟨b2, c2, e2⟩ := (q1.ar s.now (by omega)).shape
    obtain ⟨b3, c3, e3⟩ := (q1.ar a ha).shape
    obtain ⟨_, hcap1, hcap2⟩ := (q1.ar a ha).caps e3
    unfold maxLen at hcap2
    have hsl3 := q1.ar a ha
    rw [e3] at hsl3
    have ht := IsSl.take hsl3 (n := 0) (Nat.zero_le _)
    rw [List.take_zero] at ht
    have hown : (Value.slice b3 0 c3).ownBlock = (L'.v a).ownBlock := by rw [e3]; cases b3 <;> rfl
    have rep3 := q1.list (i := a) (by omega) (v' := .slice b3 0 c3) (l := []) ht (Fr.refl _ _) (.inl hown)
    rw [setSl_ar _ _ ha, cellOf_ar ha] at rep3
    have left3 : Left hb L' (L'.set a (.slice b3 0 c3)) w2 (w2.setCell ⟨hb, 8 + a, none⟩ (.slice b3 0 c3)) := HRep.left_list (by omega) _ (Fr.refl _ _) (.inl hown)
    have hfL : ∀ k, L'.foot hb k → (L.set s.now v').foot hb k := by
      intro k hk
      rcases hk with rfl | ⟨i, hi', hk⟩
      · exact .inl rfl
      · exact .inr ⟨i, hi', by rw [← (q3 i hi').own]; exact hk⟩
    have left4 : Left hb L L' w w2 := ⟨q4.fr, fun k hk => q4.foot k (hfL k hk)⟩
    have left5 := left4.trans left3
    have hv3 : (L'.set a (.slice b3 0 c3)).v 3 = L.v 3 := by
      rw [Lay.set_other _ _ (by omega)]
      have hb3 := q3 3 (by omega)
      rw [Lay.set_other _ _ (by omega)] at hb3
      exact base_eq hb3 hr.slots q1.slots q2.slen.symm
    refine ⟨q5, q6, by rw [← hn']; exact q1.cell rfl, (s'.ar s.now).length, c2, b2, by omega, by omega, by rw [q1.area (by omega), e2], (s'.ar a).length, c3, b3, hcap1, by omega, by rw [q1.area ha, e3], by simp [World.frozen?, q1.blk], fun n => ?_⟩
    exact ⟨_, s', G', φ', ⟨rep3.of_heap rfl, q2, ⟨fr_of_heap left5.fr rfl rfl rfl rfl, left5.foot⟩, hv3⟩, rfl⟩
end Go.Proofs.Ythjokcjdphempaa

namespace Go.Proofs.Ythjokcjdphempaa
open Go.RowKit Hp Go.Shelf

theorem _root_.Go.Proofs.Ythjokcjdphempaa.Hp.InvG.minors {s : HS} {G : Areas} {φ : Nat → Int} {A : AHeap} (hi : InvG s G φ A) (x : Int) : InvG { s with minors := x } G φ A :=
  { hi with rep := hi.rep.congr (fun _ _ => rfl) rfl rfl rfl }

set_option maxHeartbeats 1000000 in
theorem minor_core {hb : Nat} {mn : Int} {w : World} {M : Int → World → Prop} (d1 : w.cell? ⟨hb, 4, none⟩ = some (.int .i64 mn)) (f1 : w.frozen? ⟨hb, 4, none⟩ = false)
    (H : Calls Try.prog 85 #[.pointer (some ⟨hb, 0, none⟩), .int .i64 2] (w.setCell ⟨hb, 4, none⟩ (.int .i64 (wrap64 (mn + 1)))) fun e w' => ∃ r : Int, e = .returned (.int .i64 r) ∧ M r w') :
    Calls Try.prog 62 #[.pointer (some ⟨hb, 0, none⟩)] w fun e w' => ∃ r : Int, e = .returned (.int .i64 r) ∧ M r w' := by
  have H' := Lib.hid H
  clear H
  go_enter Try.func62, Try.ntmps62
  go_wp2_with (go_at_call 85; refine H'.out.mono ?_; rintro e w' ⟨r, rfl, hm⟩)
  go_ret
  exact ⟨r, rfl, hm⟩

/-- What (*Heap).minor leaves: c words were copied. -/
structure Minored (hb : Nat) (A : AHeap) (L : Lay) (s : HS) (w w' : World) (L' : Lay) (s' : HS) (G' : Areas) (φ' : Nat → Int) (c : Nat) : Prop where
  rep : HRep w' hb L' s'
  inv : InvG s' G' φ' A
  same : Same { s with minors := s'.minors } s'
  todo : todoSum s' = todoSum s
  copied : s'.copied = s.copied + c
  le : c ≤ (s.ar 2).length
  now : (s'.ar s.now).length = (s.ar s.now).length + c
  other : (s'.ar (1 - s.now)).length = (s.ar (1 - s.now)).length
  young : s'.ar 2 = []
  off : ∀ m, Hp.Reach A m → aOf (φ' m) ≠ 2
  slen : s'.slots.length = s.slots.length
  left : Left hb L L' w w'
  v3 : L'.v 3 = L.v 3

set_option maxHeartbeats 1000000 in
theorem minor_any {hb : Nat} {A : AHeap} {s : HS} {G : Areas} {φ : Nat → Int} {L : Lay} {w : World} (hr : HRep w hb L s) (hi : InvG s G φ A) (hz : Sized s A) (hc : s.copied ≤ 500000000000) :
    Calls Try.prog 62 #[.pointer (some ⟨hb, 0, none⟩)] w fun e w' => ∃ r : Int, e = .returned (.int .i64 r) ∧ ∃ L' s' G' φ' c, r = (c : Nat) ∧ Minored hb A L s w w' L' s' G' φ' c := by
  have r1 : HRep (w.setCell ⟨hb, 4, none⟩ (.int .i64 (wrap64 (s.minors + 1)))) hb L { s with minors := wrap64 (s.minors + 1) } := hr.scalar 4 _ rfl (fun i _ => rfl)
  have hi1 := hi.minors (wrap64 (s.minors + 1))
  have hst : WInv A (some 2) False { s with minors := wrap64 (s.minors + 1) } G φ (fun _ => False) [] { s with minors := wrap64 (s.minors + 1) } G φ :=
    WInv.start hi1.rep (fun _ h => h) (fun a ha => by cases ha; exact ⟨by omega, by have := hi.rep.now; show 2 ≠ s.now; omega⟩) (fun h => h.elim)
  have hz1 : Sized { s with minors := wrap64 (s.minors + 1) } A := ⟨hz.len, hz.count, hz.nslots⟩
  have he := emptied_any r1 hst hz1 (by omega) (by have := hi.rep.now; show 2 ≠ s.now; omega) ⟨hi.copied0, hc⟩
  refine (minor_core (hr.cell rfl) (by simp [World.frozen?, hr.blk]) he).mono ?_
  rintro e w' ⟨r, rfl, L', s', G', φ', hem, hr'⟩
  obtain ⟨q1, q2, q3, c, q4, q5, q6, q7, q8⟩ := hi1.minor hem.inv (through_DF A)
  have hs := same_setAr s' 2 []
  have hsm := hem.inv.same.trans hs.1
  have hn := hi.rep.now
  have e1 : ((s'.setAr 2 []).ar s.now) = s'.ar s.now := ar_setAr_other _ _ (by omega) (by omega) (by omega)
  refine ⟨r, rfl, L', s'.setAr 2 [], _, φ', c, ?_, ⟨hem.rep, q1, ?_, q3, q4, q5, q6, q7, q8, q2, ?_, ?_, hem.v3⟩⟩
  · have h6 : ((s'.setAr 2 []).ar s.now).length = (s.ar s.now).length + c := q6
    rw [e1] at h6
    have h7 : r = ((s'.ar s.now).length : Int) - (s.ar s.now).length := hr'
    omega
  · have := hsm.minors
    exact ⟨hsm.objs, hsm.words, hsm.worst, rfl, hsm.majors, hsm.room, hsm.young, hsm.now, hsm.todo, hsm.moves, hsm.bound, hsm.big⟩
  · rw [(setAr_now _ _ _).2.1]; exact hem.inv.slen
  · exact (left_setCell w hb L (.inl rfl) 4 _).trans hem.left
end Go.Proofs.Ythjokcjdphempaa
