/- (*Heap).work, (*Heap).finish and (*Heap).pay over a heap in memory. -/
import Derived.Test.YthjokcjdphempaaWork
namespace Go.Proofs.Ythjokcjdphempaa
open Go.RowKit Hp Go.Shelf

section
variable {w : World} {hb : Nat} {L : Lay} {s : HS}
theorem HRep.c0 (h : HRep w hb L s) : w.cell? ⟨hb, 0, none⟩ = some (.int .i64 s.objs) := h.cell rfl
theorem HRep.c1 (h : HRep w hb L s) : w.cell? ⟨hb, 1, none⟩ = some (.int .i64 s.words) := h.cell rfl
theorem HRep.c2 (h : HRep w hb L s) : w.cell? ⟨hb, 2, none⟩ = some (.int .i64 s.copied) := h.cell rfl
theorem HRep.c3 (h : HRep w hb L s) : w.cell? ⟨hb, 3, none⟩ = some (.int .i64 s.worst) := h.cell rfl
theorem HRep.c4 (h : HRep w hb L s) : w.cell? ⟨hb, 4, none⟩ = some (.int .i64 s.minors) := h.cell rfl
theorem HRep.c5 (h : HRep w hb L s) : w.cell? ⟨hb, 5, none⟩ = some (.int .i64 s.majors) := h.cell rfl
theorem HRep.c6 (h : HRep w hb L s) : w.cell? ⟨hb, 6, none⟩ = some (.int .i64 s.room) := h.cell rfl
theorem HRep.c7 (h : HRep w hb L s) : w.cell? ⟨hb, 7, none⟩ = some (.int .i64 s.young) := h.cell rfl
theorem HRep.c10 (h : HRep w hb L s) : w.cell? ⟨hb, 10, none⟩ = some (L.v 2) := h.cell rfl
theorem HRep.c11 (h : HRep w hb L s) : w.cell? ⟨hb, 11, none⟩ = some (.int .i64 s.now) := h.cell rfl
theorem HRep.c12 (h : HRep w hb L s) : w.cell? ⟨hb, 12, none⟩ = some (L.v 3) := h.cell rfl
theorem HRep.c13 (h : HRep w hb L s) : w.cell? ⟨hb, 13, none⟩ = some (L.v 4) := h.cell rfl
theorem HRep.c14 (h : HRep w hb L s) : w.cell? ⟨hb, 14, none⟩ = some (.bool s.moves) := h.cell rfl
theorem HRep.c15 (h : HRep w hb L s) : w.cell? ⟨hb, 15, none⟩ = some (.int .i64 s.bound) := h.cell rfl
theorem HRep.froz (h : HRep w hb L s) (k : Nat) : w.frozen? ⟨hb, k, none⟩ = false := by simp [World.frozen?, h.blk]
end

/-- An object that its area holds. -/
theorem loc_at {A : AHeap} {D : Ptr → Prop} {s : HS} {G : Areas} {φ : Nat → Int} (h : Rep D s G φ A) (hsm : Small s) (hbig : s.big ≤ 8001) {r : Int} {o : List Int} (hl : Hp.Loc G r o) (h0 : 0 ≤ hd o) :
    AtObj s r ∧ newest s r = r ∧ GoodRef s r ∧ wordsAt s r = o := by
  obtain ⟨f1, f2, f3⟩ := h.first hl
  obtain ⟨o1, o2, o3⟩ := h.objs _ hl.2.1 o hl.2.2.mem
  have hlen := o3 h0
  have hp : pOf r < (s.ar (aOf r)).length := by omega
  have hh : headAt s r = hd o := f1
  have hsz : hd o ≤ 4611686018427387904 := by
    unfold sizeN rawsN at hlen
    omega
  refine ⟨⟨hl.1, ref_small hsm hl.1 hl.2.1 hp, hl.2.1, by rw [hh]; exact h0, by rw [hh, ← hlen]; exact f2, by rw [hh]; exact hsz⟩, ?_, .inr ⟨hl.1, hl.2.1, hp, fun hlt => ?_⟩, words_loc h hl h0⟩
  · unfold newest
    rw [if_neg (by have := hl.1; omega), if_pos (by rw [f1]; exact h0)]
  · rw [f1] at hlt; omega

/-- Objects at different places of an area are together no longer than it. -/
theorem sum_locs {G : Areas} {k : Nat} (hne : NE (G k)) (f : Int → Nat) : ∀ l : List Int, l.Nodup → (∀ r ∈ l, ∃ o, Hp.Loc G r o ∧ aOf r = k ∧ o.length = f r) →
    (l.map f).sum = wt (fun q _ => decide (enc k q ∈ l)) 0 (G k)
  | [], _, _ => by
    have : wt (fun q _ => decide (enc k q ∈ ([] : List Int))) 0 (G k) = wt (fun _ _ => false) 0 (G k) := wt_congr _ _ fun q o _ => by simp
    rw [this]
    have z : ∀ (os : List (List Int)) (p : Nat), wt (fun _ _ => false) p os = 0 := by
      intro os
      induction os with
      | nil => intro p; rfl
      | cons o os ih => intro p; simp [wt, ih]
    rw [z]; rfl
  | r :: l, hn, h => by
    rw [List.nodup_cons] at hn
    obtain ⟨o, hl, ha, hlen⟩ := h r (by simp)
    have ih := sum_locs hne f l hn.2 fun x hx => h x (List.mem_cons_of_mem _ hx)
    have her : enc k (pOf r) = r := by rw [← ha]; exact enc_of hl.1
    have hho : HasObj (G k) (pOf r) o := by rw [← ha]; exact hl.2.2
    have := wt_more (P := fun q _ => decide (enc k q ∈ l)) (Q := fun q _ => decide (enc k q ∈ r :: l)) hne hho (by simp only [her]; simpa using hn.1) (by simp only [her]; simp)
      (fun q o' _ hq => by
        have : enc k q ≠ r := fun e => hq (by rw [← her] at e; unfold enc at e; omega)
        simp [this])
    rw [List.map_cons, List.sum_cons, this, ih, hlen]
    omega

theorem _root_.Go.Proofs.Ythjokcjdphempaa.Hp.InvG.sum_le {s : HS} {G : Areas} {φ : Nat → Int} {A : AHeap} (hi : InvG s G φ A) : todoSum s ≤ (s.ar (1 - s.now)).length := by
  have hn := hi.rep.now
  have hk : 1 - s.now < 3 := by omega
  have := sum_locs (k := 1 - s.now) (hi.rep.ne hk) (fun r => sizeN (headAt s r)) s.todo hi.busyN fun r hr => by
    obtain ⟨o, h1, h2, h3⟩ := hi.busyO r hr
    exact ⟨o, h1, h2, by rw [headAt_loc hi.rep h1]; exact (hi.rep.objs _ h1.2.1 o h1.2.2.mem).2.2 h3⟩
  have h2 := wt_le (fun q _ => decide (enc (1 - s.now) q ∈ s.todo)) (G (1 - s.now)) 0
  rw [hi.rep.flat _ hk]
  unfold todoSum
  have h3 : flen (G (1 - s.now)) = (G (1 - s.now)).flatten.length := rfl
  omega

/-- What (*Heap).work leaves: c words were copied. -/
structure Worked (hb : Nat) (A : AHeap) (units : Int) (L : Lay) (s : HS) (w w' : World) (L' : Lay) (s' : HS) (G' : Areas) (φ' : Nat → Int) (c : Nat) : Prop where
  rep : HRep w' hb L' s'
  inv : InvG s' G' φ' A
  same : Same { s with todo := s'.todo, moves := s'.moves, majors := s'.majors } s'
  copied : s'.copied = s.copied + c
  le : (c : Int) ≤ units + s.big
  sum : todoSum s' + c = todoSum s
  now : (s'.ar s.now).length = (s.ar s.now).length + c
  young : (s'.ar 2).length = (s.ar 2).length
  busy : s'.moves = true → units ≤ c ∧ (s'.ar (1 - s.now)).length = (s.ar (1 - s.now)).length
  slen : s'.slots.length = s.slots.length
  left : Left hb L L' w w'
  v3 : L'.v 3 = L.v 3

/-- What holds in the loop of (*Heap).work when n objects are left and c words have been copied. -/
def WorkJ (hb : Nat) (A : AHeap) (units : Int) (L : Lay) (s : HS) (w : World) (c : Int) (n : Nat) (W : World) : Prop :=
  ∃ L1 s1 G1 φ1, ∃ k : Nat, HRep W hb L1 s1 ∧ InvG s1 G1 φ1 A ∧ s1.moves = true ∧ s1.todo.length = n ∧ c = s.copied + k ∧ s1.copied = c ∧ Same { s with todo := s1.todo } s1 ∧
    (k : Int) ≤ units + s.big ∧ todoSum s1 + k = todoSum s ∧ (s1.ar s.now).length = (s.ar s.now).length + k ∧ (∀ j, j < 3 → j ≠ s.now → (s1.ar j).length = (s.ar j).length) ∧ s1.slots.length = s.slots.length ∧ Left hb L L1 w W ∧ L1.v 3 = L.v 3

theorem tail_sl {w : World} {b o tc : Nat} {r : Int} {rest : List Int} (h : IsSl w (.slice (some ⟨b, o, none⟩) (r :: rest).length tc) (r :: rest)) :
    IsSl w (.slice (if tc = 1 then some ⟨b, o, none⟩ else some ⟨b, o + 1, none⟩) rest.length (tc - 1)) rest := by
  rcases h with ⟨e, _⟩ | ⟨b', o', cap, cs, e, h1, h2, h3, h4, h5⟩
  · cases e
  · cases e
    simp only [List.length_cons] at h3 h5
    by_cases e1 : tc = 1
    · rw [if_pos e1]
      have : rest = [] := List.eq_nil_of_length_eq_zero (by omega)
      subst this
      exact .inr ⟨b, o, tc - 1, cs, rfl, h1, by omega, by simp, h4, by simp⟩
    · rw [if_neg e1]
      refine .inr ⟨b, o + 1, tc - 1, cs, rfl, h1, by omega, by omega, h4, ?_⟩
      have := congrArg List.tail h5
      rw [List.tail_cons] at this
      rw [← List.drop_one, List.drop_take, List.drop_drop, show rest.length + 1 - 1 = rest.length from rfl] at this
      exact this

set_option maxHeartbeats 1000000 in
theorem work_any {hb : Nat} {A : AHeap} {s : HS} {G : Areas} {φ : Nat → Int} {L : Lay} {w : World} {units : Int} (hr : HRep w hb L s) (hi : InvG s G φ A) (hmv : s.moves = true) (hz : Sized s A) (hbig : s.big ≤ 8001)
    (hwc : s.words + s.copied ≤ 100000000000) (hu : 0 ≤ units ∧ units ≤ 1000000000000) :
    Calls Try.prog 59 #[.pointer (some ⟨hb, 0, none⟩), .int .i64 units] w fun e w' => e = .returned (.tuple #[]) ∧ ∃ L' s' G' φ' c, Worked hb A units L s w w' L' s' G' φ' c := by
  have hn := hi.rep.now
  have hc0 := hi.copied0
  have hw0 := hi.words0
  have hsumR : todoSum s ≤ 65536 := by have := hi.sum; have := hi.room2; omega
  have hlenW : ∀ (s1 : HS) (k : Nat), todoSum s1 + k = todoSum s → (s1.ar s.now).length = (s.ar s.now).length + k → (∀ j, j < 3 → j ≠ s.now → (s1.ar j).length = (s.ar j).length) → Sized s1 A := by
    intro s1 k h1 h2 h3
    refine ⟨fun j hj => ?_, hz.count, hz.nslots⟩
    by_cases e : j = s.now
    · subst e; have := hi.lens s.now (by omega); omega
    · rw [h3 j hj e]; exact hz.len j hj
  refine work_core (now := s.now) (c0 := s.copied) (n0 := s.todo.length) (J := WorkJ hb A units L s w)
    (M := fun W => ∃ (L' : Lay) (s' : HS) (G' : Areas) (φ' : Nat → Int) (c : Nat), Worked hb A units L s w ((W.setCell ⟨hb, 14, none⟩ (.bool false)).setCell ⟨hb, 5, none⟩ (.int .i64 (wrap64 (s'.majors)))) L' { s' with majors := wrap64 s'.majors } G' φ' c ∧
      (∃ bv, W.cell? ⟨hb, 14, none⟩ = some (.bool bv)) ∧ (∀ k, W.frozen? ⟨hb, k, none⟩ = false) ∧ ∃ mj : Int, W.cell? ⟨hb, 5, none⟩ = some (.int .i64 mj) ∧ s'.majors = mj + 1)
    (E := fun w' => ∃ L' s' G' φ' c, Worked hb A units L s w w' L' s' G' φ' c)
    ⟨hc0, by omega⟩ hu (by omega) ?_ ?_ ?_ ?_ ?_ ?_
  · exact ⟨L, s, G, φ, 0, hr, hi, hmv, rfl, by omega, rfl, Same.refl s, by omega, by omega, by omega, fun _ _ _ => rfl, rfl, Left.refl _ _ _, rfl⟩
  · rintro c n W ⟨L1, s1, G1, φ1, k, r1, i1, m1, n1, c1, c2, sm, le, sum, now, oth, slen, left, hv3⟩
    obtain ⟨ta, tc, et⟩ := r1.todo.shape
    have hl : s1.todo.length ≤ 900000000000 := by
      have h1 : s1.todo.length ≤ todoSum s1 := by
        unfold todoSum
        have : ∀ l : List Int, l.length ≤ (l.map fun r => sizeN (headAt s1 r)).sum := by
          intro l
          induction l with
          | nil => simp
          | cons x l ih => simp only [List.map_cons, List.sum_cons, List.length_cons]; unfold sizeN at ih ⊢; omega
        exact this _
      omega
    refine ⟨by rw [r1.c2, c2], ⟨ta, tc, by rw [r1.c13, et, n1], by omega⟩, ?_⟩
    rw [r1.c11, show s1.now = s.now from sm.now]
  · rintro c n W ⟨L1, s1, G1, φ1, k, r1, i1, m1, n1, c1, c2, sm, le, sum, now, oth, slen, left, hv3⟩ hpos hlt
    obtain ⟨r, rest, etd⟩ : ∃ r rest, s1.todo = r :: rest := by
      cases h : s1.todo with
      | nil => rw [h] at n1; simp at n1; omega
      | cons r rest => exact ⟨r, rest, rfl⟩
    have hnow : s1.now = s.now := sm.now
    have hb1 : s1.big = s.big := sm.big
    have hz1 : Sized s1 A := hlenW s1 k sum now oth
    obtain ⟨o, G2, φ2, hl, h0, ha, hsz, hob, i2, sum2, _⟩ := i1.work m1 etd
    obtain ⟨at1, at2, at3, at4⟩ := loc_at i1.rep hz1.small (by omega) hl h0
    obtain ⟨b, off, tc, et, g1, g2, g3⟩ := r1.todo.get (i := 0) (by rw [etd]; simp)
    obtain ⟨_, hcap1, hcap2⟩ := r1.todo.caps et
    have hdiff : aOf r ≠ s1.now := by omega
    have hcopy := copied_any r1 at3 at1.fit hz1.small at2 at1 i1.rep.now hdiff ⟨by omega, by omega⟩
    rw [at4] at hcopy
    have g2' := g2 0 (by rw [etd]; simp)
    rw [Nat.add_zero, etd] at g2'
    refine ⟨b, off, tc, r, by omega, by have : maxLen ≤ 9223372036854775807 := by decide
                                        omega, by rw [r1.c13, et, n1], g2', hcopy.mono ?_⟩
    rintro e W1 ⟨rfl, L2, r2, left2, hLo, _⟩
    have hL4 : L2.v 4 = .slice (some ⟨b, off, none⟩) s1.todo.length tc := by rw [hLo 4 (by omega), et]
    refine ⟨_, rfl, by rw [r2.c13, hL4, n1], r2.froz _, s1.copied + o.length, ?_⟩
    have htd2 : (copyTo s1 r o).todo = r :: rest := by rw [copyTo_todo, etd]
    have hrest : n - 1 = rest.length := by rw [etd] at n1; simp at n1; omega
    obtain ⟨v', hv'⟩ : ∃ v', v' = Value.slice (if tc = 1 then some ⟨b, off, none⟩ else some ⟨b, off + 1, none⟩) (n - 1) (tc - 1) := ⟨_, rfl⟩
    rw [← hv']
    have hsl2 : IsSl W1 v' rest := by
      have := r2.todo
      rw [hL4, htd2, show s1.todo.length = (r :: rest).length by rw [etd]] at this
      rw [hv', hrest]
      exact tail_sl this
    have hown : v'.ownBlock = (L2.v 4).ownBlock := by
      rw [hv', hL4]
      by_cases e : tc = 1
      · rw [if_pos e]; rfl
      · rw [if_neg e]; rfl
    have r3 := r2.list (i := 4) (by omega) hsl2 (Fr.refl _ _) (.inl hown)
    have l3 : Left hb L2 (L2.set 4 v') W1 (W1.setCell ⟨hb, 13, none⟩ v') := HRep.left_list (i := 4) (by omega) 13 (Fr.refl _ _) (.inl hown)
    have hsm2 := same_copyTo s1 r o
    obtain ⟨l1, l2⟩ := copyTo_lens (o := o) i1.rep.now hl.2.1 hdiff
    refine ⟨L2.set 4 v', { copyTo s1 r o with todo := rest }, G2, φ2, k + o.length, r3, i2, ?_, hrest.symm, by rw [c2, c1]; push_cast; omega, rfl, ?_, ?_, by omega, ?_, ?_, ?_, ?_, ?_⟩
    · show (copyTo s1 r o).moves = true
      rw [hsm2.moves]; exact m1
    · have h5 := sm.trans hsm2
      exact ⟨h5.objs, h5.words, h5.worst, h5.minors, h5.majors, h5.room, h5.young, h5.now, rfl, h5.moves, h5.bound, h5.big⟩
    · push_cast; omega
    · show ((copyTo s1 r o).ar s.now).length = _
      rw [← hnow, l1, hnow, now]; omega
    · intro j hj hjn
      show ((copyTo s1 r o).ar j).length = _
      rw [l2 j hj (by omega)]; exact oth j hj hjn
    · show (copyTo s1 r o).slots.length = _
      rw [copyTo_now.2]; exact slen
    · exact left.trans (left2.trans l3)
    · rw [Lay.set_other _ _ (by omega), hLo 3 (by have := i1.rep.now; omega)]; exact hv3
  · rintro c n W ⟨L1, s1, G1, φ1, k, r1, i1, m1, n1, c1, c2, sm, le, sum, now, oth, slen, left, hv3⟩ hpos hle
    refine ⟨L1, s1, G1, φ1, k, r1, i1, ?_, by omega, le, sum, now, oth 2 (by omega) (by omega), fun _ => ⟨by omega, oth _ (by omega) (by omega)⟩, slen, left, hv3⟩
    exact ⟨sm.objs, sm.words, sm.worst, sm.minors, rfl, sm.room, sm.young, sm.now, rfl, rfl, sm.bound, sm.big⟩
  · rintro c W ⟨L1, s1, G1, φ1, k, r1, i1, m1, n1, c1, c2, sm, le, sum, now, oth, slen, left, hv3⟩
    have htd : s1.todo = [] := List.eq_nil_of_length_eq_zero n1
    have hnow : s1.now = s.now := sm.now
    have hz1 : Sized s1 A := hlenW s1 k sum now oth
    have hst : WInv A (some (1 - s1.now)) True s1 G1 φ1 (fun _ => False) [] s1 G1 φ1 := WInv.start i1.rep (fun _ h => h) (fun a ha => by cases ha; omega)
      (fun _ a ha m hm e => by
        cases ha
        have := i1.busyR m1 m hm e
        rw [htd] at this; cases this)
    have hem := emptied_any (a := 1 - s1.now) r1 hst hz1 (by omega) (by omega) ⟨i1.copied0, by omega⟩
    have e1 : ((1 - s1.now : Nat) : Int) = 1 - (s.now : Int) := by omega
    rw [e1] at hem
    refine hem.mono ?_
    rintro e W1 ⟨x, rfl, L2, s2, G2, φ2, hE, _⟩
    obtain ⟨i2, q1, q2, q3, q4⟩ := i1.ends htd hE.inv (through_DF A) (wrap64 (s2.majors + 1))
    have hs := same_setAr s2 (1 - s1.now) []
    have hsm2 := (sm.trans hE.inv.same).trans hs.1
    have r2 := hE.rep
    have r3 : HRep (W1.setCell ⟨hb, 14, none⟩ (.bool false)) hb L2 { s2.setAr (1 - s1.now) [] with moves := false } := r2.scalar 14 _ rfl (fun i _ => rfl)
    have r4 : HRep ((W1.setCell ⟨hb, 14, none⟩ (.bool false)).setCell ⟨hb, 5, none⟩ (.int .i64 (wrap64 (s2.majors + 1)))) hb L2 { s2.setAr (1 - s1.now) [] with moves := false, majors := wrap64 (s2.majors + 1) } := r3.scalar 5 _ rfl (fun i _ => rfl)
    refine ⟨x, rfl, L2, { s2.setAr (1 - s1.now) [] with moves := false, majors := s2.majors + 1 }, _, φ2, k, ⟨r4, i2, ?_, ?_, le, ?_, ?_, ?_, ?_, ?_, ?_, hE.v3.trans hv3⟩, ⟨_, r2.c14⟩, fun k => r2.froz _, s2.majors, ?_, rfl⟩
    · exact ⟨hsm2.objs, hsm2.words, hsm2.worst, hsm2.minors, rfl, hsm2.room, hsm2.young, hsm2.now, rfl, rfl, hsm2.bound, hsm2.big⟩
    · show (s2.setAr (1 - s1.now) []).copied = _
      rw [hs.2, q1, c2, c1]
    · have : todoSum { s2.setAr (1 - s1.now) [] with moves := false, majors := wrap64 (s2.majors + 1) } = 0 := by
        have h := (i2.idle rfl).1
        unfold todoSum; rw [h]; rfl
      rw [this]
      have : todoSum s1 = 0 := by unfold todoSum; rw [htd]; rfl
      omega
    · show ((s2.setAr (1 - s1.now) []).ar s.now).length = _
      rw [ar_setAr_other _ _ (by omega) (by omega) (by omega), q2]; exact now
    · show ((s2.setAr (1 - s1.now) []).ar 2).length = _
      rw [ar_setAr_other _ _ (by omega) (by omega) (by omega), q2]; exact oth 2 (by omega) (by omega)
    · intro h; cases h
    · show (s2.setAr (1 - s1.now) []).slots.length = _
      rw [(setAr_now _ _ _).2.1, hE.inv.slen]; exact slen
    · exact left.trans (hE.left.trans ((left_setCell _ hb L2 (.inl rfl) 14 _).trans (left_setCell _ hb L2 (.inl rfl) 5 _)))
    · rw [r2.c5]
      have : (s2.setAr (1 - s1.now) []).majors = s2.majors := hs.1.majors
      rw [← this]
  · rintro W1 ⟨L2, s2, G2, φ2, k, hW, hb1, hf, mj, hmj, e⟩
    refine ⟨hb1, hf, mj, hmj, ?_⟩
    rw [← e]
    exact ⟨L2, _, G2, φ2, k, hW⟩
end Go.Proofs.Ythjokcjdphempaa
