/- What an act leaves of a heap's counts; Make with its accounts; the failing ways of Make. -/
import Derived.Test.YthjokcjdphempaaMaken
import Derived.Test.YthjokcjdphempaaSl
namespace Go.Proofs.Ythjokcjdphempaa
open Go.RowKit Hp Go.Shelf

/-- What has been copied, what lies in the area now, and what is still to be copied. -/
def debts (s : HS) : Int := s.copied + (pot s : Int) + 2 * ((s.ar 2).length : Int)

/-- The counts and the areas' lengths are as they were. -/
structure Idle (s s1 : HS) : Prop where
  room : s1.room = s.room
  young : s1.young = s.young
  words : s1.words = s.words
  big : s1.big = s.big
  worst : s1.worst = s.worst
  copied : s1.copied = s.copied
  pot : pot s1 = pot s
  y : (s1.ar 2).length = (s.ar 2).length

theorem Idle.refl (s : HS) : Idle s s := ⟨rfl, rfl, rfl, rfl, rfl, rfl, rfl, rfl⟩

theorem Idle.of {s s1 : HS} (h : Same s s1) (hc : s1.copied = s.copied) (hl : ∀ k, (s1.ar k).length = (s.ar k).length) (ht : todoSum s1 = todoSum s) : Idle s s1 :=
  ⟨h.room, h.young, h.words, h.big, h.worst, hc, by unfold Go.Proofs.Ythjokcjdphempaa.pot; rw [h.now, hl, ht], hl 2⟩

theorem Kept2.idle {A : AHeap} {s s1 : HS} (h : Kept2 A s s1) : Idle s s1 := .of h.same h.copied h.lens h.todo

/-- What an act leaves; q: it is none of Step and Whole. -/
structure Ran (q : Prop) (sz : Nat) (x : Int) (A : AHeap) (s s' : HS) : Prop where
  room : s'.room = s.room
  young : s'.young = s.young
  mono : s.copied ≤ s'.copied
  big : s'.big = s.big ∨ (x = 0 ∧ s'.big = max s.big sz)
  worst : q → s'.worst ≤ max s.worst (s'.copied - s.copied)
  cost : q → s'.copied - s.copied ≤ 8 * (s.young + (max s.big sz : Nat))
  acc : q → 4 * (A.live : Int) ≤ s.room → debts s ≤ 2 * s.words → debts s' ≤ 2 * s'.words

/-- The worst pause behind an act. -/
def paused (s s1 : HS) : HS := { s1 with worst := worse s1.worst (s1.copied - s.copied) }

theorem worse_le (a c : Int) : worse a c ≤ max a c := by unfold worse; split <;> omega

theorem debts_paused (s s1 : HS) : debts (paused s s1) = debts s1 := rfl

theorem Ran.of {q : Prop} {sz : Nat} {x : Int} {A : AHeap} {s s1 : HS} (h1 : s1.room = s.room) (h2 : s1.young = s.young) (h3 : s.copied ≤ s1.copied) (h4 : s1.big = s.big ∨ (x = 0 ∧ s1.big = max s.big sz)) (h5 : s1.worst = s.worst)
    (h6 : q → s1.copied - s.copied ≤ 8 * (s.young + (max s.big sz : Nat))) (h7 : q → 4 * (A.live : Int) ≤ s.room → debts s ≤ 2 * s.words → debts s1 ≤ 2 * s1.words) : Ran q sz x A s (paused s s1) :=
  ⟨h1, h2, h3, h4, fun _ => by show worse s1.worst (s1.copied - s.copied) ≤ max s.worst (s1.copied - s.copied); rw [h5]; exact worse_le _ _, h6, fun a b c => by rw [debts_paused]; exact h7 a b c⟩

theorem Idle.ran {q : Prop} {sz : Nat} {x : Int} {A : AHeap} {s s1 : HS} (h : Idle s s1) (hy : 0 ≤ s.young) : Ran q sz x A s (paused s s1) := by
  have hc := h.copied
  refine Ran.of h.room h.young (by omega) (.inl h.big) h.worst (fun _ => by omega) fun _ _ h3 => ?_
  unfold debts at h3 ⊢
  rw [h.pot, h.y, h.words, hc]
  exact h3

theorem Idle.debts {s s1 : HS} (h : Idle s s1) : debts s1 = debts s := by unfold Go.Proofs.Ythjokcjdphempaa.debts; rw [h.pot, h.y, h.copied]

/-- A payment takes no more than it finds. -/
theorem Paid.debts_le {hb : Nat} {A : AHeap} {units : Int} {L : Lay} {s : HS} {w w' : World} {L' : Lay} {s' : HS} {G' : Areas} {φ' : Nat → Int} {c : Nat} (h : Paid hb A units False L s w w' L' s' G' φ' c) (hl : 4 * (A.live : Int) ≤ s.room) : debts s' ≤ debts s := by
  have hc := h.copied
  have hy := h.young
  unfold debts
  rw [hc, hy]
  rcases h.pots with ⟨h1, _⟩ | ⟨h1, _, h2, _⟩
  · omega
  · have h3 := h1.resolve_left id
    have : (s.ar s.now).length ≤ pot s := by unfold pot; omega
    omega

theorem Minored.debts_le {hb : Nat} {A : AHeap} {L : Lay} {s : HS} {w w' : World} {L' : Lay} {s' : HS} {G' : Areas} {φ' : Nat → Int} {c : Nat} (h : Minored hb A L s w w' L' s' G' φ' c) : debts s' ≤ debts s := by
  have hc := h.copied
  have hy := h.young
  have hle := h.le
  have hnow := h.now
  have htodo := h.todo
  have hn : s'.now = s.now := h.same.now
  unfold debts pot
  rw [hc, hy, hn, hnow, htodo]
  simp
  omega
end Go.Proofs.Ythjokcjdphempaa

namespace Go.Proofs.Ythjokcjdphempaa
open Go.RowKit Hp Go.Shelf

/-- A heap between the collections of made and its new object, with its accounts. -/
structure MidA (hb : Nat) (A : AHeap) (sz : Nat) (L : Lay) (s : HS) (w : World) (L1 : Lay) (s1 : HS) (W : World) : Prop where
  mid : Mid hb A L s w L1 s1 W
  worst : s1.worst = s.worst
  cost : s1.copied - s.copied ≤ 8 * (s.young + (max s.big sz : Nat))
  acc : 4 * (A.live : Int) ≤ s.room → debts s1 ≤ debts s

section
variable {hb : Nat} {A : AHeap} {L : Lay} {s : HS} {w : World}

/-- What stands behind made, ahead of the store of the new reference. -/
def MadeA (hb : Nat) (A : AHeap) (k to tag refs raws : Nat) (L : Lay) (s : HS) (w : World) (x : Int) (v : Value) (W : World) : Prop :=
  ∃ L2 s2, HRep W hb L2 s2 ∧ L2.v 3 = v ∧ to < s2.slots.length ∧ Left hb L L2 w W ∧ Good { s2 with slots := s2.slots.set to x, big := max s2.big (1 + refs + raws) } (A.make to tag refs raws) (k + 1) ∧
    (s.copied ≤ s2.copied ∧ s2.copied ≤ 1000000000000) ∧ s2.room = s.room ∧ s2.young = s.young ∧ s2.big = s.big ∧ s2.worst = s.worst ∧ s2.words = s.words ∧ s2.copied - s.copied ≤ 8 * (s.young + (max s.big (1 + refs + raws) : Nat)) ∧ (4 * (A.live : Int) ≤ s.room → debts s2 ≤ debts s + 2 * (1 + refs + raws : Nat))

theorem mid_madeA {k to tag refs raws a : Nat} {L1 : Lay} {s0 s1 : HS} {W W' : World} (h' : MidA hb A (1 + refs + raws) L s w L1 s1 W) (hm : MadeIn hb a tag refs raws L1 s1 W W') (hv : L1.v 3 = L.v 3) (hto : to < s1.slots.length) (ha : a = 2 ∨ a = s1.now) (ht : tag < 65536) (hrf : refs ≤ 4000) (hrw : raws ≤ 4000)
    (hy : a = 2 → ((s1.ar 2).length : Int) + (1 + refs + raws : Nat) ≤ s1.young) (hG0 : Good s0 A k) (hk : k + 1 ≤ 100000) (e1 : s.words = s0.words + (1 + refs + raws : Nat)) (e2 : s.copied = s0.copied) (e3 : s.objs = s0.objs + 1) (e4 : s.room = s0.room) (e5 : s.big = s0.big)
    (e6 : (A.live : Int) + (1 + refs + raws : Nat) ≤ s.bound) (e7 : s.bound ≤ s.room) (hl0 : ∀ k, k < 3 → ((s.ar k).length : Int) ≤ s0.words + s0.copied) :
    MadeA hb A k to tag refs raws L s w (enc a (s1.ar a).length) (L.v 3) W' := by
  have h := h'.mid
  obtain ⟨G, φ, hi⟩ := h.inv
  have hn := hi.rep.now
  have ha3 : a < 3 := by omega
  obtain ⟨L2, r2, l2, hv2⟩ := madeIn_rep h.rep ha3 hm
  have hb0 := hG0.bounds
  have hi1 : InvG { s1 with words := s0.words } G φ A := hi.setWords (by omega) fun j hj => by have := h.lens j hj; have := hl0 j hj; omega
  obtain ⟨G', φ', hi2, _⟩ := hi1.make (to := to) (a := a) ha ht hrf hrw hy (by show _ ≤ s1.room; rw [h.room]; omega) s1.objs s1.bound s1.worst
  have hs := same_setAr s1 a (s1.ar a ++ newWords tag refs raws)
  have hwords := h.words
  have hcop := h.copied
  have hwc := hG0.wc
  refine ⟨L2, _, r2, hv2.trans hv, by rw [(setAr_now _ _ _).2.1]; exact hto, h.left.trans l2, ?_, by rw [hs.2]; omega, by rw [hs.1.room]; exact h.room, by rw [hs.1.young]; exact h.young, by rw [hs.1.big]; exact h.big, by rw [hs.1.worst]; exact h'.worst, by rw [hs.1.words]; exact h.words, by rw [hs.2]; exact h'.cost, fun hl => ?_⟩
  rotate_left
  · have hacc := h'.acc hl
    have hpot : debts (s1.setAr a (s1.ar a ++ newWords tag refs raws)) ≤ debts s1 + 2 * (1 + refs + raws : Nat) := by
      have hnw : (newWords tag refs raws).length = 1 + refs + raws := by simp [newWords]; omega
      have hhd : ∀ r ∈ s1.todo, headAt (s1.setAr a (s1.ar a ++ newWords tag refs raws)) r = headAt s1 r := by
        intro r hrr
        obtain ⟨o, hlo, _, _⟩ := hi.busyO r hrr
        obtain ⟨f1, f2, f3⟩ := hi.rep.first hlo
        unfold headAt
        by_cases e : aOf r = a
        · rw [e, ar_setAr_same _ _ ha3, List.getD_eq_getElem?_getD, List.getD_eq_getElem?_getD, List.getElem?_append_left (by rw [← e]; omega)]
        · rw [ar_setAr_other _ _ ha3 hlo.2.1 e]
      have hts : todoSum (s1.setAr a (s1.ar a ++ newWords tag refs raws)) = todoSum s1 := by
        unfold todoSum
        rw [(setAr_now _ _ _).2.2]
        congr 1
        exact List.map_congr_left fun r hrr => by rw [hhd r hrr]
      unfold debts pot
      rw [hs.2, hts, hs.1.now]
      rcases ha with rfl | rfl
      · rw [ar_setAr_same _ _ (by omega), ar_setAr_other _ _ (by omega) (by omega) (by omega), List.length_append, hnw]
        omega
      · rw [ar_setAr_same _ _ (by omega), ar_setAr_other _ _ (by omega) (by omega) (by omega), List.length_append, hnw]
        omega
    omega
  have est : { s1.setAr a (s1.ar a ++ newWords tag refs raws) with slots := (s1.setAr a (s1.ar a ++ newWords tag refs raws)).slots.set to (enc a (s1.ar a).length), big := max (s1.setAr a (s1.ar a ++ newWords tag refs raws)).big (1 + refs + raws) } =
      { madeIn { s1 with words := s0.words } a to tag refs raws with words := s0.words + (1 + refs + raws : Nat), objs := s1.objs, bound := s1.bound, worst := s1.worst } := by
    rw [← e1, ← hwords]
    obtain rfl | rfl | rfl : a = 0 ∨ a = 1 ∨ a = 2 := by omega
    all_goals rfl
  rw [est]
  have hlive : (A.make to tag refs raws).live ≤ A.live + (1 + refs + raws) := by
    refine live_le_new hi.rep.wf (n := A.objs.length) (fun h => by have := h.lt hi.rep.wf; omega) fun m hm => ?_
    rw [obj_make]
    rcases reach_make hm with h | h
    · have := h.lt hi.rep.wf
      left
      rw [if_neg (by omega)]
      exact ⟨h, rfl⟩
    · right
      rw [if_pos h]
      exact ⟨h, by simp [AObj.size]⟩
  have hob := hG0.obj
  have hobj := h.objs
  have hbnd := h.bound
  have hbig := h.big
  have hbig0 := hG0.big
  have hobjs := hG0.objs
  have hrm := h.room
  refine ⟨⟨G', φ', hi2⟩, ?_, ?_, ?_, ?_, ?_, ?_, ?_, hk⟩
  · show max s1.big (1 + refs + raws) ≤ 8001; omega
  · have : s0.words + ((1 + refs + raws : Nat) : Int) + s1.copied ≤ 400000 * ((k + 1 : Nat) : Int) := by omega
    obtain rfl | rfl | rfl : a = 0 ∨ a = 1 ∨ a = 2 := by omega
    all_goals exact this
  · simp [AHeap.make]; omega
  · have := hG0.nsl; simp [AHeap.make]; omega
  · show _ ≤ s1.bound; omega
  · have : s1.bound ≤ s1.room := by omega
    obtain rfl | rfl | rfl : a = 0 ∨ a = 1 ∨ a = 2 := by omega
    all_goals exact this
  · show 0 ≤ s1.objs ∧ s1.objs ≤ ((k + 1 : Nat) : Int); omega

theorem Paid.midA {sz : Nat} {units : Int} {G : Areas} {φ : Nat → Int} {L' : Lay} {s' : HS} {w' : World} {c : Nat} (h : Paid hb A units False L s w w' L' s' G φ c) (h0 : s.room ≤ 65536) (hu : units ≤ 4 * (sz : Int)) (hy : 0 ≤ s.young) : MidA hb A sz L s w L' s' w' := by
  have hc := h.copied
  have hle := h.le
  exact ⟨h.mid h0, h.same.worst, by omega, h.debts_le⟩

theorem Mid.transA {sz : Nat} {L1 L2 : Lay} {s1 s2 : HS} {w1 w2 : World} {c1 : Nat} {G1 : Areas} {φ1 : Nat → Int} (h : Minored hb A L s w w1 L1 s1 G1 φ1 c1) (hm : Mid hb A L s w L1 s1 w1) {G : Areas} {φ : Nat → Int} {c : Nat} (k : Paid hb A (4 * (c1 : Int)) False L1 s1 w1 w2 L2 s2 G φ c) (hc : s2.copied ≤ s.copied + 131072) (hy : ((s.ar 2).length : Int) ≤ s.young) : MidA hb A sz L s w L2 s2 w2 := by
  have h1 := h.copied
  have h2 := h.le
  have h3 := k.copied
  have h4 := k.le
  have h5 := hm.big
  have h6 := hm.room
  refine ⟨hm.trans k hc, k.same.worst.trans h.same.worst, by omega, fun hl => ?_⟩
  have h7 := h.debts_le
  have h8 := k.debts_le (by omega)
  omega

set_option maxHeartbeats 1000000 in
/-- **made**: what it leaves, whatever it collects. -/
theorem made_anyA {k to tag refs raws : Nat} {s0 : HS} {G : Areas} {φ : Nat → Int} (hr : HRep w hb L s) (hi : InvG s G φ A) (hz : Sized s A) (hto : to < s.slots.length) (ht : tag < 65536) (hrf : refs ≤ 4000) (hrw : raws ≤ 4000) (hG0 : Good s0 A k) (hk : k + 1 ≤ 100000)
    (e1 : s.words = s0.words + (1 + refs + raws : Nat)) (e2 : s.copied = s0.copied) (e3 : s.objs = s0.objs + 1) (e4 : s.room = s0.room) (e5 : s.big = s0.big) (e6 : (A.live : Int) + (1 + refs + raws : Nat) ≤ s.bound) (e7 : s.bound ≤ s.room) (hl0 : ∀ k, k < 3 → ((s.ar k).length : Int) ≤ s0.words + s0.copied) :
    Calls Try.prog 52 #[.pointer (some ⟨hb, 0, none⟩), .int .i64 tag, .int .i64 refs, .int .i64 raws] w fun e w' => ∃ x, e = .returned (.int .i64 x) ∧ MadeA hb A k to tag refs raws L s w x (L.v 3) w' := by
  have hn := hi.rep.now
  have hb0 := hG0.bounds
  have hbig := hG0.big
  have hroom1 := hi.room1
  have hroom2 := hi.room2
  have hy2 := hi.young2
  have hyl := hi.ylen
  have hwc := hG0.wc
  have hkb := hG0.kb
  have hlens2 : ∀ k, k < 3 → (s.ar k).length ≤ 50000000000 := fun k hk => by have := hl0 k hk; omega
  have hlens : ∀ k, k < 3 → (s.ar k).length ≤ 100000000000 := fun k hk => by have := hlens2 k hk; omega
  by_cases hy : ((1 + refs + raws : Nat) : Int) ≤ s.young
  · by_cases hfit : ((s.ar 2).length : Int) + (1 + refs + raws : Nat) ≤ s.young
    · refine (made_young hr ht hrf hrw (hlens 2 (by omega)) (by omega) (by omega)).mono ?_
      rintro e w' ⟨rfl, hm⟩
      have hmid : MidA hb A (1 + refs + raws) L s w L s w := ⟨⟨hr, ⟨_, _, hi⟩, rfl, rfl, rfl, rfl, rfl, rfl, rfl, by omega, fun _ _ => by omega, Left.refl _ _ _, rfl⟩, rfl, by omega, fun _ => Int.le_refl _⟩
      exact ⟨_, rfl, mid_madeA hmid hm rfl hto (.inl rfl) ht hrf hrw (fun _ => hfit) hG0 hk e1 e2 e3 e4 e5 e6 e7 hl0⟩
    · refine (made_minor (M := fun L1 s1 W => MidA hb A (1 + refs + raws) L s w L1 s1 W ∧ (s1.ar 2).length = 0) (N := fun c W => ∃ L1 s1 G1 φ1, Minored hb A L s w W L1 s1 G1 φ1 c) hr ht hrf hrw (hlens 2 (by omega)) (by omega) (by omega) ?_ ?_ ?_).mono ?_
      · intro n
        refine (minor_any (w := w.drewN n) (hr.of_heap rfl) hi hz (by omega)).mono ?_
        rintro e w' ⟨r, rfl, L1, s1, G1, φ1, c, rfl, hm⟩
        exact ⟨c, rfl, L1, s1, G1, φ1, { hm with left := (Left.drewN n).trans hm.left }⟩
      · rintro c w' ⟨L1, s1, G1, φ1, hm⟩
        have hmid := hm.mid (by omega) hn
        have hc := hm.copied
        have hle := hm.le
        have hw := hm.same.words
        have hbg := hm.same.big
        have hsz1 : Sized s1 A := ⟨fun j hj => by have := hmid.lens j hj; have := hlens j hj; have := hmid.copied; omega, hz.count, hz.nslots⟩
        refine (pay_any hm.rep hm.inv hsz1 (by rw [show s1.big = s.big from hbg]; omega) (by rw [show s1.words = s.words from hw]; omega) ⟨by omega, by omega⟩).mono ?_
        rintro e w2 ⟨rfl, L2, s2, G2, φ2, c2, hp⟩
        have hp1 := hp.copied
        have hp2 := hp.room
        have hrm : s1.room = s.room := hm.same.room
        exact ⟨rfl, L2, s2, Mid.transA hm hmid hp (by omega) hyl, by rw [hp.young, hm.young]; rfl⟩
      · rintro L1 s1 W ⟨h1, h2⟩
        exact ⟨h1.mid.rep, by omega⟩
      · rintro e w' ⟨L1, s1, w1, ⟨hmid, h2⟩, rfl, hm⟩
        refine ⟨_, rfl, mid_madeA hmid hm hmid.mid.v3 (by rw [hmid.mid.slen]; exact hto) (.inl rfl) ht hrf hrw (fun _ => ?_) hG0 hk e1 e2 e3 e4 e5 e6 e7 hl0⟩
        rw [h2, hmid.mid.young]; simpa using hy
  · refine (made_old (M := fun L1 s1 W => MidA hb A (1 + refs + raws) L s w L1 s1 W) hr ht hrf hrw hn (by omega) ?_ ?_).mono ?_
    · refine (pay_any hr hi hz (by omega) (by omega) ⟨by omega, by omega⟩).mono ?_
      rintro e w2 ⟨rfl, L2, s2, G2, φ2, c2, hp⟩
      exact ⟨rfl, L2, s2, hp.midA hroom2 (Int.le_refl _) (by omega)⟩
    · intro L1 s1 W h1'
      have h1 := h1'.mid
      obtain ⟨G1, φ1, hi1⟩ := h1.inv
      have hn1 := hi1.rep.now
      exact ⟨h1.rep, hn1, by have := h1.lens s1.now (by omega); have := hlens2 s1.now (by omega); have := h1.copied; omega⟩
    · rintro e w' ⟨L1, s1, w1, hmid, rfl, hm⟩
      obtain ⟨G1, φ1, hi1⟩ := hmid.mid.inv
      have hn1 := hi1.rep.now
      exact ⟨_, rfl, mid_madeA hmid hm hmid.mid.v3 (by rw [hmid.mid.slen]; exact hto) (.inr rfl) ht hrf hrw (fun h => by omega) hG0 hk e1 e2 e3 e4 e5 e6 e7 hl0⟩

end

section
variable {hb : Nat} {A : AHeap} {L : Lay} {s : HS} {w : World} {k : Nat}

/-- MadeA, from the state ahead of the counting. -/
def MadeB (hb : Nat) (A : AHeap) (k to tag refs raws : Nat) (L : Lay) (s : HS) (w : World) (x : Int) (v : Value) (W : World) : Prop :=
  ∃ L2 s2, HRep W hb L2 s2 ∧ L2.v 3 = v ∧ to < s2.slots.length ∧ Left hb L L2 w W ∧ Good { s2 with slots := s2.slots.set to x, big := max s2.big (1 + refs + raws) } (A.make to tag refs raws) (k + 1) ∧
    (s.copied ≤ s2.copied ∧ s2.copied ≤ 1000000000000) ∧ s2.room = s.room ∧ s2.young = s.young ∧ s2.big = s.big ∧ s2.worst = s.worst ∧ s2.words = s.words + (1 + refs + raws : Nat) ∧ s2.copied - s.copied ≤ 8 * (s.young + (max s.big (1 + refs + raws) : Nat)) ∧ (4 * (A.live : Int) ≤ s.room → debts s2 ≤ debts s + 2 * (1 + refs + raws : Nat))

theorem MadeA.from {to tag refs raws : Nat} {L1 : Lay} {s1 : HS} {w1 : World} {x : Int} {v : Value} {W : World} (h : MadeA hb A k to tag refs raws L1 s1 w1 x v W) (hl : Left hb L L1 w w1) (hc : s1.copied = s.copied) (h1 : s1.room = s.room) (h2 : s1.young = s.young) (h3 : s1.big = s.big) (h4 : s1.worst = s.worst) (h5 : s1.words = s.words + (1 + refs + raws : Nat)) (h6 : debts s1 = debts s) :
    MadeB hb A k to tag refs raws L s w x v W := by
  obtain ⟨L2, s2, q1, q2, q3, q4, q5, q6, q7, q8, q9, q10, q11, q12, q13⟩ := h
  rw [h1, h6] at q13
  rw [h2, h3, hc] at q12
  exact ⟨L2, s2, q1, q2, q3, hl.trans q4, q5, by omega, q7.trans h1, q8.trans h2, q9.trans h3, q10.trans h4, q11.trans h5, q12, q13⟩

theorem MadeB.x {k to tag refs raws hx tx gx rx wx : Nat} (n1 : ¬ L.foot hb hx) (n2 : ¬ L.foot hb tx) (n3 : ¬ L.foot hb gx) (n4 : ¬ L.foot hb rx) (n5 : ¬ L.foot hb wx)
    (c1 : w.cell? ⟨hx, 0, none⟩ = some (.pointer (some ⟨hb, 0, none⟩))) (c2 : w.cell? ⟨tx, 0, none⟩ = some (.int .i64 to)) (c3 : w.cell? ⟨gx, 0, none⟩ = some (.int .i64 tag)) (c4 : w.cell? ⟨rx, 0, none⟩ = some (.int .i64 refs)) (c5 : w.cell? ⟨wx, 0, none⟩ = some (.int .i64 raws)) :
    MadeX hb hx tx gx rx wx to tag refs raws (fun x v W => MadeB hb A k to tag refs raws L s w x v W) := by
  refine ⟨fun x v W ⟨L2, s2, h1, h2, h3, h4, _⟩ => ?_⟩
  obtain ⟨sb, off, cap, d1, d2, d3, d4, d5⟩ := h1.slot h3
  exact ⟨fr_cell h4.fr c1 n1, fr_cell h4.fr c2 n2, fr_cell h4.fr c3 n3, fr_cell h4.fr c4 n4, fr_cell h4.fr c5 n5, by rw [← h2]; exact h1.c12, sb, off, _, cap, by rw [← h2]; exact d4, h3, ⟨_, d3⟩, d5⟩

theorem MadeB.done {k to tag refs raws : Nat} {x : Int} {v : Value} {W w' : World} {sb off sl cap : Nat} (h : MadeB hb A k to tag refs raws L s w x v W) (hv : v = .slice (some ⟨sb, off, none⟩) sl cap) (hw : Eqw (W.setCell ⟨sb, off + to, none⟩ (.int .i64 x)) w') :
    ∃ L2 s3, HRep w' hb L2 s3 ∧ Left hb L L2 w w' ∧ Good s3 (A.make to tag refs raws) (k + 1) ∧ (s.copied ≤ s3.copied ∧ s3.copied ≤ 1000000000000) ∧ s3.room = s.room ∧ s3.young = s.young ∧ s3.big = max s.big (1 + refs + raws) ∧ s3.worst = s.worst ∧ s3.words = s.words + (1 + refs + raws : Nat) ∧ s3.copied - s.copied ≤ 8 * (s.young + (max s.big (1 + refs + raws) : Nat)) ∧ (4 * (A.live : Int) ≤ s.room → debts s3 ≤ debts s + 2 * (1 + refs + raws : Nat)) := by
  obtain ⟨L2, s2, h1, h2, h3, h4, h5, h6, h7, h8, h9b, h10, h11, h12, h13⟩ := h
  have hput := h1.put (i := 3) (by omega) (h2.trans hv) (p := to) h3 x
  have h9 : HRep (W.setCell ⟨sb, off + to, none⟩ (.int .i64 x)) hb L2 { s2 with slots := s2.slots.set to x, big := max s2.big (1 + refs + raws) } := ⟨hput.blk, hput.sl, hput.off, hput.apart⟩
  have l1 := left_setCell W hb L2 (ownBlock_foot (i := 3) (by omega) (by rw [h2, hv]; rfl)) (off + to) (.int .i64 x)
  have l2 := h4.trans l1
  exact ⟨L2, _, h9.of_heap hw.1, ⟨⟨hw.2.1.trans l2.fr.os, hw.2.2.1.trans l2.fr.tape, hw.2.2.2.trans l2.fr.output, by rw [hw.1]; exact l2.fr.size, fun j hj hn => by rw [hw.1]; exact l2.fr.block j hj hn⟩, l2.foot⟩, h5, h6, h7, h8, by show max s2.big _ = _; rw [h9b], h10, h11, h12, h13⟩

/-- What the closure of Make leaves. -/
def MadeC (hb : Nat) (A : AHeap) (k to tag refs raws : Nat) (L : Lay) (s : HS) (w : World) (e : Ending) (W : World) : Prop :=
  ∃ L1 s1, HRep W hb L1 s1 ∧ Left hb L L1 w W ∧ (s.copied ≤ s1.copied ∧ s1.copied ≤ 1000000000000) ∧ s1.room = s.room ∧ s1.young = s.young ∧
    ((e = .returned (.tuple #[]) ∧ (A.live : Int) + (1 + refs + raws : Nat) ≤ s.room ∧ Good s1 (A.make to tag refs raws) (k + 1) ∧ s1.big = max s.big (1 + refs + raws) ∧ s1.worst = s.worst ∧ s1.words = s.words + (1 + refs + raws : Nat) ∧ s1.copied - s.copied ≤ 8 * (s.young + (max s.big (1 + refs + raws) : Nat)) ∧ (4 * (A.live : Int) ≤ s.room → debts s1 ≤ debts s + 2 * (1 + refs + raws : Nat))) ∨ (e = .panicked (trouble 11) ∧ s.room < (A.live : Int) + (1 + refs + raws : Nat) ∧ Good s1 A k ∧ Idle s s1))

set_option maxHeartbeats 1000000 in
theorem make_cloA {hx tx gx rx wx to tag refs raws : Nat} (hr : HRep w hb L s) (hG : Good s A k) (hk : k + 1 ≤ 100000) (hto : to < A.slots.length) (ht : tag < 65536) (hrf : refs ≤ 4000) (hrw : raws ≤ 4000)
    (n1 : ¬ L.foot hb hx) (n2 : ¬ L.foot hb tx) (n3 : ¬ L.foot hb gx) (n4 : ¬ L.foot hb rx) (n5 : ¬ L.foot hb wx)
    (c1 : w.cell? ⟨hx, 0, none⟩ = some (.pointer (some ⟨hb, 0, none⟩))) (c2 : w.cell? ⟨tx, 0, none⟩ = some (.int .i64 to)) (c3 : w.cell? ⟨gx, 0, none⟩ = some (.int .i64 tag)) (c4 : w.cell? ⟨rx, 0, none⟩ = some (.int .i64 refs)) (c5 : w.cell? ⟨wx, 0, none⟩ = some (.int .i64 raws)) :
    Calls Try.prog 49 #[.pointer (some ⟨hx, 0, none⟩), .pointer (some ⟨tx, 0, none⟩), .pointer (some ⟨gx, 0, none⟩), .pointer (some ⟨rx, 0, none⟩), .pointer (some ⟨wx, 0, none⟩)] w fun e W => MadeC hb A k to tag refs raws L s w e W := by
  obtain ⟨b1, b2, b3, b4, b5, b6⟩ := hG.bounds
  obtain ⟨G, φ, hi⟩ := hG.inv
  have hnsl := hG.nsl
  have hbnd := hG.bnd
  have hbndr := hG.bndr
  have hobj := hG.obj
  have hkb := hG.kb
  have hroom2 := hi.room2
  have hsize : (1 : Int) + (refs : Int) + (raws : Int) = ((1 + refs + raws : Nat) : Int) := by omega
  have hz := hG.sized
  have hX := MadeB.x (A := A) (k := k) (s := s) n1 n2 n3 n4 n5 c1 c2 c3 c4 c5
  have hrA := hr.of_fr (fr_alloc1 w (.cells #[.int .i64 to] 3)) (fun _ _ h => h)
  by_cases hfit : s.bound + (1 + (refs : Int) + (raws : Int)) ≤ s.room
  · refine (make_fit hr (by omega) c1 c2 c3 c4 c5 (by omega) ht hrf hrw ⟨by omega, by omega⟩ ⟨by omega, hroom2⟩ ⟨hobj.1, by omega⟩ ⟨b4, by omega⟩ n1 n2 n3 n4 n5 hfit hX ?_).mono ?_
    · intro W hW
      rw [hsize] at hW
      obtain ⟨q1, q2⟩ := counted_at hrA hW
      refine (made_anyA (s0 := s) (k := k) (to := to) q1 (counted_good hi _) ⟨hz.len, hz.count, hz.nslots⟩ (by show to < s.slots.length; omega) ht hrf hrw hG hk rfl rfl rfl rfl rfl (by show _ ≤ s.bound + ((1 + refs + raws : Nat) : Int); omega) (by show s.bound + ((1 + refs + raws : Nat) : Int) ≤ s.room; omega) (fun j hj => hi.lens j hj)).mono ?_
      rintro e w' ⟨x, rfl, hm⟩
      exact ⟨x, rfl, hm.from ((alloc_left w _).trans q2) rfl rfl rfl rfl rfl rfl rfl⟩
    · rintro e w' ⟨rfl, x, sb, off, sl, cap, W, hv, hm, hw⟩
      obtain ⟨L2, s3, q1, q2, q3, q4, q5, q6, q7⟩ := hm.done hv hw
      exact ⟨L2, s3, q1, q2, q4, q5, q6, .inl ⟨rfl, by omega, q3, q7⟩⟩
  · obtain ⟨sb, off, cap, d1, d2, d3, d4, d5⟩ := hr.slot (i := to) (by omega)
    have hne : ∀ b, ¬ L.foot hb b → b ≠ hb := fun b h e => h (.inl e)
    have H39 : ∀ W, Eqw (w.alloc (.cells #[.int .i64 to] 3)) W → Calls Try.prog 39 #[.pointer (some ⟨hb, 0, none⟩)] W fun e W' => e = .returned (.int .i64 A.live) ∧ ∃ L' s' G' φ', Walked hb A L s W W' L' s' G' φ' ∧ Left hb L L' w W' := by
      intro W hW
      refine (live_any (w := W) (hrA.of_heap hW.1) hi hz).mono ?_
      rintro e W' ⟨rfl, L', s', G', φ', hw⟩
      refine ⟨rfl, L', s', G', φ', hw, ((alloc_left w _).eqw hW).trans ⟨hw.fr, fun j hj => .inl ?_⟩⟩
      rcases hj with rfl | ⟨i, hi', hj⟩
      · exact .inl rfl
      · exact .inr ⟨i, hi', by rw [← (hw.base i hi').own]; exact hj⟩
    have hNL : ∀ W, (∃ L' s' G' φ' W0, Walked hb A L s W0 W L' s' G' φ' ∧ Left hb L L' w W) → W.cell? ⟨hx, 0, none⟩ = some (.pointer (some ⟨hb, 0, none⟩)) ∧ W.cell? ⟨tx, 0, none⟩ = some (.int .i64 to) ∧ W.cell? ⟨gx, 0, none⟩ = some (.int .i64 tag) ∧ W.cell? ⟨rx, 0, none⟩ = some (.int .i64 refs) ∧ W.cell? ⟨wx, 0, none⟩ = some (.int .i64 raws) ∧
        W.cell? ⟨hb, 15, none⟩ = some (.int .i64 s.bound) ∧ W.cell? ⟨hb, 6, none⟩ = some (.int .i64 s.room) ∧ W.cell? ⟨hb, 0, none⟩ = some (.int .i64 s.objs) ∧ W.cell? ⟨hb, 1, none⟩ = some (.int .i64 s.words) ∧ W.cell? ⟨hb, 12, none⟩ = some (.slice (some ⟨sb, off, none⟩) s.slots.length cap) ∧ ∀ k, W.frozen? ⟨hb, k, none⟩ = false := by
      rintro W ⟨L', s', G', φ', W0, hw, hl⟩
      have e3 : L'.v 3 = L.v 3 := base_eq (hw.base 3 (by omega)) hr.slots hw.rep.slots hw.slen.symm
      exact ⟨fr_cell hl.fr c1 n1, fr_cell hl.fr c2 n2, fr_cell hl.fr c3 n3, fr_cell hl.fr c4 n4, fr_cell hl.fr c5 n5, by rw [← hw.same.bound]; exact hw.rep.c15, by rw [← hw.same.room]; exact hw.rep.c6, by rw [← hw.same.objs]; exact hw.rep.c0, by rw [← hw.same.words]; exact hw.rep.c1,
        by rw [← d4, ← e3]; exact hw.rep.c12, hw.rep.froz⟩
    have hlive := hi.live
    have hroomI : (0 : Int) ≤ s.room := by omega
    have hkeep : ∀ {W : World} {L' : Lay} {s' : HS} {G' : Areas} {φ' : Nat → Int} {W0 : World}, Walked hb A L s W0 W L' s' G' φ' → HRep (W.setCell ⟨hb, 15, none⟩ (.int .i64 A.live)) hb L' { s' with bound := A.live } ∧ InvG { s' with bound := A.live } G' φ' A ∧ Good { s' with bound := A.live } A k ∧ L'.v 3 = L.v 3 := by
      intro W L' s' G' φ' W0 hw
      have hi2 : InvG { s' with bound := (A.live : Int) } G' φ' A := hw.inv.head rfl rfl rfl rfl rfl rfl rfl rfl rfl rfl (Int.le_refl _) rfl
      have hg2 := hG.kept hw.inv hw.kept
      have hrm : s'.room = s.room := hw.same.room
      exact ⟨hw.rep.scalar 15 _ rfl (fun i _ => rfl), hi2, ⟨⟨G', φ', hi2⟩, hg2.big, hg2.wc, hg2.objs, hg2.nsl, Int.le_refl _, by show (A.live : Int) ≤ s'.room; rw [hrm]; exact hlive, hg2.obj, hg2.kb⟩, base_eq (hw.base 3 (by omega)) hr.slots hw.rep.slots hw.slen.symm⟩
    by_cases hyes : (A.live : Int) + (1 + (refs : Int) + (raws : Int)) ≤ s.room
    · refine (make_fit2 (lv := A.live) (bd := s.bound) (room := s.room) (ob := s.objs) (wd := s.words) (sb := sb) (off := off) (sl := s.slots.length) (cap := cap) hr (by omega) c1 c2 c3 c4 c5 (by omega) ht hrf hrw ⟨by omega, by omega⟩ ⟨hroomI, hroom2⟩ ⟨by omega, by omega⟩ ⟨hne _ n1, hne _ n2, hne _ n3, hne _ n4, hne _ n5⟩ rfl rfl (by omega)
        (NL := fun W => ∃ L' s' G' φ' W0, Walked hb A L s W0 W L' s' G' φ' ∧ Left hb L L' w W) (fun W hW => (H39 W hW).mono ?_) hNL hyes ⟨hobj.1, by omega⟩ ⟨b4, by omega⟩ (by omega) d2 hX ?_).mono ?_
      · rintro e W' ⟨rfl, L', s', G', φ', h1, h2⟩
        exact ⟨rfl, L', s', G', φ', W, h1, h2⟩
      · rintro W5 ⟨L', s', G', φ', W0, hw, hl⟩ W hW
        obtain ⟨r1, i1, g1, v3⟩ := hkeep hw
        rw [hsize] at hW
        have hob' : s'.objs = s.objs := hw.same.objs
        have hwd' : s'.words = s.words := hw.same.words
        have hrm : s'.room = s.room := hw.same.room
        have hyg : s'.young = s.young := hw.same.young
        have hsl' := hw.slen
        rw [← hob', ← hwd'] at hW
        obtain ⟨q1, q2⟩ := counted_at (n := 1 + refs + raws) r1 hW
        have hz1 := g1.sized
        refine (made_anyA (s0 := { s' with bound := (A.live : Int) }) (k := k) (to := to) q1 (counted_good i1 _) ⟨hz1.len, hz1.count, hz1.nslots⟩ (by show to < s'.slots.length; omega) ht hrf hrw g1 hk rfl rfl rfl rfl rfl (by show _ ≤ (A.live : Int) + ((1 + refs + raws : Nat) : Int); omega) (by show (A.live : Int) + ((1 + refs + raws : Nat) : Int) ≤ s'.room; omega) (fun j hj => i1.lens j hj)).mono ?_
        rintro e w' ⟨x, rfl, hm⟩
        rw [v3, d4] at hm
        exact ⟨x, rfl, hm.from ((hl.trans (left_setCell W5 hb L' (.inl rfl) 15 _)).trans q2) hw.copied hrm hyg hw.same.big hw.same.worst (by show s'.words + _ = _; rw [hwd']) hw.kept.idle.debts⟩
      · rintro e w' ⟨rfl, x, sb', off', sl', cap', W, hv, hm, hw⟩
        obtain ⟨L2, s3, q1, q2, q3, q4, q5, q6, q7⟩ := hm.done hv hw
        exact ⟨L2, s3, q1, q2, q4, q5, q6, .inl ⟨rfl, by omega, q3, q7⟩⟩
    · refine (make_full (lv := A.live) (bd := s.bound) (room := s.room) (ob := s.objs) (wd := s.words) (sb := sb) (off := off) (sl := s.slots.length) (cap := cap) hr (by omega) c1 c2 c3 c4 c5 (by omega) ht hrf hrw ⟨by omega, by omega⟩ ⟨hroomI, hroom2⟩ ⟨by omega, by omega⟩ ⟨hne _ n1, hne _ n2, hne _ n3, hne _ n4, hne _ n5⟩ rfl rfl (by omega)
        (NL := fun W => ∃ L' s' G' φ' W0, Walked hb A L s W0 W L' s' G' φ' ∧ Left hb L L' w W) (fun W hW => (H39 W hW).mono ?_) hNL (by omega)).mono ?_
      · rintro e W' ⟨rfl, L', s', G', φ', h1, h2⟩
        exact ⟨rfl, L', s', G', φ', W, h1, h2⟩
      · rintro e w' ⟨rfl, W5, ⟨L', s', G', φ', W0, hw, hl⟩, hE⟩
        obtain ⟨r1, i1, g1, v3⟩ := hkeep hw
        refine ⟨L', _, r1.of_heap hE.1, (hl.trans (left_setCell W5 hb L' (.inl rfl) 15 _)).eqw hE, ?_, hw.same.room, hw.same.young, .inr ⟨rfl, by omega, g1, ⟨hw.same.room, hw.same.young, hw.same.words, hw.same.big, hw.same.worst, hw.copied, hw.kept.idle.pot, hw.lens 2⟩⟩⟩
        show s.copied ≤ s'.copied ∧ s'.copied ≤ _
        rw [hw.copied]; omega

end
end Go.Proofs.Ythjokcjdphempaa

namespace Go.Proofs.Ythjokcjdphempaa
open Go.RowKit Hp Go.Shelf

set_option maxRecDepth 100000 in
set_option maxHeartbeats 1000000 in
theorem make_no2 {hb hx tx gx rx wx : Nat} {w : World} {L : Lay} {s : HS} (hr : HRep w hb L s) (hsl : s.slots.length ≤ 1000000) {to : Nat} {tag : Int} (c_hx : w.cell? ⟨hx, 0, none⟩ = some (.pointer (some ⟨hb, 0, none⟩))) (c_tx : w.cell? ⟨tx, 0, none⟩ = some (.int .i64 to)) (c_gx : w.cell? ⟨gx, 0, none⟩ = some (.int .i64 tag)) (hto : to < s.slots.length) (hk : tag < 0 ∨ 65535 < tag) :
    Calls Try.prog 49 #[.pointer (some ⟨hx, 0, none⟩), .pointer (some ⟨tx, 0, none⟩), .pointer (some ⟨gx, 0, none⟩), .pointer (some ⟨rx, 0, none⟩), .pointer (some ⟨wx, 0, none⟩)] w fun e w' => e = .panicked (trouble 1) ∧ (w.alloc (.cells #[.int .i64 to] 3)) = w' := by
  have HT := Lib.hid (there1 hr to hsl (in_slots1.2 ⟨by omega, by omega⟩))
  have e_hx := alloc_cell c_hx (.cells #[.int .i64 to] 3)
  have e_tx := alloc_cell c_tx (.cells #[.int .i64 to] 3)
  have e_gx := alloc_cell c_gx (.cells #[.int .i64 to] 3)
  clear hr hsl hto
  rcases Int.lt_or_le tag 0 with h | h
  · have hd : decide (0 ≤ tag) = false := by simp; omega
    clear hk h
    go_enter Try.func49, Try.ntmps49
    go_wp2_with (first | (go_at_call 50; refine HT.out.mono ?_; rintro e w' ⟨rfl, rfl⟩) | (go_at_call 51; refine (fail_no _ _).mono ?_; rintro e w' ⟨rfl, rfl⟩))
    exact ⟨rfl, rfl, rfl⟩
  · have hd : decide (0 ≤ tag) = true := by simp; omega
    have hd2 : decide (tag ≤ 65535) = false := by simp; omega
    clear hk h
    go_enter Try.func49, Try.ntmps49
    go_wp2_with (first | (go_at_call 50; refine HT.out.mono ?_; rintro e w' ⟨rfl, rfl⟩) | (go_at_call 51; refine (fail_no _ _).mono ?_; rintro e w' ⟨rfl, rfl⟩))
    exact ⟨rfl, rfl, rfl⟩

set_option maxRecDepth 100000 in
set_option maxHeartbeats 1000000 in
theorem make_no3 {hb hx tx gx rx wx : Nat} {w : World} {L : Lay} {s : HS} (hr : HRep w hb L s) (hsl : s.slots.length ≤ 1000000) {to : Nat} {tag refs raws : Int} (c_hx : w.cell? ⟨hx, 0, none⟩ = some (.pointer (some ⟨hb, 0, none⟩))) (c_tx : w.cell? ⟨tx, 0, none⟩ = some (.int .i64 to)) (c_gx : w.cell? ⟨gx, 0, none⟩ = some (.int .i64 tag)) (c_rx : w.cell? ⟨rx, 0, none⟩ = some (.int .i64 refs)) (c_wx : w.cell? ⟨wx, 0, none⟩ = some (.int .i64 raws)) (hto : to < s.slots.length) (htag : 0 ≤ tag ∧ tag ≤ 65535) (hk : refs < 0 ∨ 4000 < refs ∨ raws < 0 ∨ 4000 < raws) :
    Calls Try.prog 49 #[.pointer (some ⟨hx, 0, none⟩), .pointer (some ⟨tx, 0, none⟩), .pointer (some ⟨gx, 0, none⟩), .pointer (some ⟨rx, 0, none⟩), .pointer (some ⟨wx, 0, none⟩)] w fun e w' => e = .panicked (trouble 3) ∧ (w.alloc (.cells #[.int .i64 to] 3)) = w' := by
  have HT := Lib.hid (there1 hr to hsl (in_slots1.2 ⟨by omega, by omega⟩))
  have e_hx := alloc_cell c_hx (.cells #[.int .i64 to] 3)
  have e_tx := alloc_cell c_tx (.cells #[.int .i64 to] 3)
  have e_gx := alloc_cell c_gx (.cells #[.int .i64 to] 3)
  have e_rx := alloc_cell c_rx (.cells #[.int .i64 to] 3)
  have e_wx := alloc_cell c_wx (.cells #[.int .i64 to] 3)
  have hg1 : decide (0 ≤ tag) = true := by simp; omega
  have hg2 : decide (tag ≤ 65535) = true := by simp; omega
  clear hr hsl hto htag
  by_cases h1 : 0 ≤ refs
  · have hd1 : decide (0 ≤ refs) = true := by simp; omega
    by_cases h2 : refs ≤ 4000
    · have hd2 : decide (refs ≤ 4000) = true := by simp; omega
      by_cases h3 : 0 ≤ raws
      · have hd3 : decide (0 ≤ raws) = true := by simp; omega
        have hd4 : decide (raws ≤ 4000) = false := by simp; omega
        clear hk h1 h2 h3
        go_enter Try.func49, Try.ntmps49
        go_wp2_with (first | (go_at_call 50; refine HT.out.mono ?_; rintro e w' ⟨rfl, rfl⟩) | (go_at_call 51; (first | ((with_reducible refine (fail_yes _ _).mono ?_); rintro e w' ⟨rfl, rfl⟩) | (refine (fail_no _ _).mono ?_; rintro e w' ⟨rfl, rfl⟩))))
        exact ⟨rfl, rfl, rfl⟩
      · have hd3 : decide (0 ≤ raws) = false := by simp; omega
        clear hk h1 h2 h3
        go_enter Try.func49, Try.ntmps49
        go_wp2_with (first | (go_at_call 50; refine HT.out.mono ?_; rintro e w' ⟨rfl, rfl⟩) | (go_at_call 51; (first | ((with_reducible refine (fail_yes _ _).mono ?_); rintro e w' ⟨rfl, rfl⟩) | (refine (fail_no _ _).mono ?_; rintro e w' ⟨rfl, rfl⟩))))
        exact ⟨rfl, rfl, rfl⟩
    · have hd2 : decide (refs ≤ 4000) = false := by simp; omega
      clear hk h1 h2
      go_enter Try.func49, Try.ntmps49
      go_wp2_with (first | (go_at_call 50; refine HT.out.mono ?_; rintro e w' ⟨rfl, rfl⟩) | (go_at_call 51; (first | ((with_reducible refine (fail_yes _ _).mono ?_); rintro e w' ⟨rfl, rfl⟩) | (refine (fail_no _ _).mono ?_; rintro e w' ⟨rfl, rfl⟩))))
      exact ⟨rfl, rfl, rfl⟩
  · have hd1 : decide (0 ≤ refs) = false := by simp; omega
    clear hk h1
    go_enter Try.func49, Try.ntmps49
    go_wp2_with (first | (go_at_call 50; refine HT.out.mono ?_; rintro e w' ⟨rfl, rfl⟩) | (go_at_call 51; (first | ((with_reducible refine (fail_yes _ _).mono ?_); rintro e w' ⟨rfl, rfl⟩) | (refine (fail_no _ _).mono ?_; rintro e w' ⟨rfl, rfl⟩))))
    exact ⟨rfl, rfl, rfl⟩

end Go.Proofs.Ythjokcjdphempaa
