/- Make over a heap in memory. -/
import Derived.Test.YthjokcjdphempaaActs
namespace Go.Proofs.Ythjokcjdphempaa
open Go.RowKit Hp Go.Shelf

theorem _root_.Go.Proofs.Ythjokcjdphempaa.Hp.InvG.setWords {s : HS} {G : Areas} {φ : Nat → Int} {A : AHeap} (hi : InvG s G φ A) {v : Int} (h0 : 0 ≤ v) (hl : ∀ k, k < 3 → ((s.ar k).length : Int) ≤ v + s.copied) : InvG { s with words := v } G φ A :=
  { hi with rep := hi.rep.congr (fun _ _ => rfl) rfl rfl rfl, words0 := h0, lens := hl }

/-- A heap between the collections of made and its new object. -/
structure Mid (hb : Nat) (A : AHeap) (L : Lay) (s : HS) (w : World) (L1 : Lay) (s1 : HS) (W : World) : Prop where
  rep : HRep W hb L1 s1
  inv : ∃ G φ, InvG s1 G φ A
  words : s1.words = s.words
  objs : s1.objs = s.objs
  bound : s1.bound = s.bound
  room : s1.room = s.room
  young : s1.young = s.young
  big : s1.big = s.big
  slen : s1.slots.length = s.slots.length
  copied : s.copied ≤ s1.copied ∧ s1.copied ≤ s.copied + 131072
  lens : ∀ k, k < 3 → ((s1.ar k).length : Int) + s.copied ≤ (s.ar k).length + s1.copied
  left : Left hb L L1 w W
  v3 : L1.v 3 = L.v 3

section
variable {hb : Nat} {A : AHeap} {L : Lay} {s : HS} {w : World}

theorem madeIn_rep {a tag refs raws : Nat} {w' : World} (hr : HRep w hb L s) (ha : a < 3) (h : MadeIn hb a tag refs raws L s w w') :
    ∃ L2, HRep w' hb L2 (s.setAr a (s.ar a ++ newWords tag refs raws)) ∧ Left hb L L2 w w' ∧ L2.v 3 = L.v 3 := by
  obtain ⟨w0, w1, b, off, c, e1, e2, e3, e4, happ, hne, hw⟩ := h.ex
  have hr0 : HRep w0 hb L s := hr.of_heap e1
  have hl : (s.ar a ++ List.replicate (1 + refs + raws) (0 : Int)).length = (s.ar a).length + (1 + refs + raws) := by simp
  have hown : (Value.slice (some ⟨b, off, none⟩) ((s.ar a).length + (1 + refs + raws)) c).ownBlock = (L.v a).ownBlock ∨ (Value.slice (some ⟨b, off, none⟩) ((s.ar a).length + (1 + refs + raws)) c).ownBlock = none ∨
      ∃ b', (Value.slice (some ⟨b, off, none⟩) ((s.ar a).length + (1 + refs + raws)) c).ownBlock = some b' ∧ w0.heap.size ≤ b' := happ.blk.elim .inl fun h => .inr (.inr h)
  have r1 := hr0.list (i := a) (by omega) happ.new happ.fr hown
  rw [cellOf_ar ha, setSl_ar _ _ ha] at r1
  have l1 : Left hb L _ w0 _ := HRep.left_list (i := a) (by omega) (8 + a) happ.fr hown
  have r2 := r1.put (i := a) (by omega) (Lay.set_same _ _ _) (p := (s.ar a).length) (by rw [sl_ar _ ha, ar_setAr_same _ _ ha]; simp; omega) (hdr tag refs raws)
  rw [sl_ar _ ha, setSl_ar _ _ ha, ar_setAr_same _ _ ha] at r2
  have e5 : (s.ar a ++ List.replicate (1 + refs + raws) (0 : Int)).set (s.ar a).length (hdr tag refs raws) = s.ar a ++ newWords tag refs raws := by
    rw [List.set_append_right _ _ (Nat.le_refl _), Nat.sub_self, show 1 + refs + raws = (refs + raws) + 1 by omega, List.replicate_succ]
    rfl
  have e6 : ∀ l m : List Int, (s.setAr a l).setAr a m = s.setAr a m := by
    intro l m
    obtain rfl | rfl | rfl : a = 0 ∨ a = 1 ∨ a = 2 := by omega
    all_goals rfl
  rw [e5, e6] at r2
  have l2 := left_setCell (w1.setCell ⟨hb, 8 + a, none⟩ (.slice (some ⟨b, off, none⟩) ((s.ar a).length + (1 + refs + raws)) c)) hb (L.set a (.slice (some ⟨b, off, none⟩) ((s.ar a).length + (1 + refs + raws)) c)) (ownBlock_foot (i := a) (by omega) (by rw [Lay.set_same]; rfl)) (off + (s.ar a).length) (.int .i64 (hdr tag refs raws))
  have l3 := (l1.trans l2).of_heap (w := w) e1 e2 e3 e4
  refine ⟨_, r2.of_heap hw.1, ⟨⟨hw.2.1.trans l3.fr.os, hw.2.2.1.trans l3.fr.tape, hw.2.2.2.trans l3.fr.output, by rw [hw.1]; exact l3.fr.size, fun j hj hn => by rw [hw.1]; exact l3.fr.block j hj hn⟩, l3.foot⟩, Lay.set_other _ _ (by omega)⟩

/-- What stands behind made, ahead of the store of the new reference. -/
def MadeN (hb : Nat) (A : AHeap) (k to tag refs raws : Nat) (L : Lay) (s : HS) (w : World) (x : Int) (v : Value) (W : World) : Prop :=
  ∃ L2 s2, HRep W hb L2 s2 ∧ L2.v 3 = v ∧ to < s2.slots.length ∧ Left hb L L2 w W ∧ Good { s2 with slots := s2.slots.set to x, big := max s2.big (1 + refs + raws) } (A.make to tag refs raws) (k + 1) ∧
    (s.copied ≤ s2.copied ∧ s2.copied ≤ 1000000000000) ∧ s2.room = s.room ∧ s2.young = s.young

theorem mid_made {k to tag refs raws a : Nat} {L1 : Lay} {s0 s1 : HS} {W W' : World} (h : Mid hb A L s w L1 s1 W) (hm : MadeIn hb a tag refs raws L1 s1 W W') (hv : L1.v 3 = L.v 3) (hto : to < s1.slots.length) (ha : a = 2 ∨ a = s1.now) (ht : tag < 65536) (hrf : refs ≤ 4000) (hrw : raws ≤ 4000)
    (hy : a = 2 → ((s1.ar 2).length : Int) + (1 + refs + raws : Nat) ≤ s1.young) (hG0 : Good s0 A k) (hk : k + 1 ≤ 100000) (e1 : s.words = s0.words + (1 + refs + raws : Nat)) (e2 : s.copied = s0.copied) (e3 : s.objs = s0.objs + 1) (e4 : s.room = s0.room) (e5 : s.big = s0.big)
    (e6 : (A.live : Int) + (1 + refs + raws : Nat) ≤ s.bound) (e7 : s.bound ≤ s.room) (hl0 : ∀ k, k < 3 → ((s.ar k).length : Int) ≤ s0.words + s0.copied) :
    MadeN hb A k to tag refs raws L s w (enc a (s1.ar a).length) (L.v 3) W' := by
  obtain ⟨G, φ, hi⟩ := h.inv
  have hn := hi.rep.now
  have ha3 : a < 3 := by omega
  obtain ⟨L2, r2, l2, hv2⟩ := madeIn_rep h.rep ha3 hm
  have hb0 := hG0.bounds
  have hi1 : InvG { s1 with words := s0.words } G φ A := hi.setWords (by omega) fun j hj => by have := h.lens j hj; have := hl0 j hj; omega
  obtain ⟨G', φ', hi2, _⟩ := hi1.make (to := to) (a := a) ha ht hrf hrw hy (by show _ ≤ s1.room; rw [h.room]; omega) s1.objs s1.bound s1.worst
  have hs := same_setAr s1 a (s1.ar a ++ newWords tag refs raws)
  have hwords := h.words
  have hcop := h.copied
  have hwc := hG0.wc
  refine ⟨L2, _, r2, hv2.trans hv, by rw [(setAr_now _ _ _).2.1]; exact hto, h.left.trans l2, ?_, by rw [hs.2]; omega, by rw [hs.1.room]; exact h.room, by rw [hs.1.young]; exact h.young⟩
  have est : { s1.setAr a (s1.ar a ++ newWords tag refs raws) with slots := (s1.setAr a (s1.ar a ++ newWords tag refs raws)).slots.set to (enc a (s1.ar a).length), big := max (s1.setAr a (s1.ar a ++ newWords tag refs raws)).big (1 + refs + raws) } =
      { madeIn { s1 with words := s0.words } a to tag refs raws with words := s0.words + (1 + refs + raws : Nat), objs := s1.objs, bound := s1.bound, worst := s1.worst } := by
    rw [← e1, ← hwords]
    obtain rfl | rfl | rfl : a = 0 ∨ a = 1 ∨ a = 2 := by omega
    all_goals rfl
  rw [est]
  have hlive : (A.make to tag refs raws).live ≤ A.live + (1 + refs + raws) := by
    refine live_le_new hi.rep.wf (n := A.objs.length) (fun h => by have := h.lt hi.rep.wf; omega) fun m hm => ?_
    rw [obj_make]
    rcases reach_make hm with h | h
    · have := h.lt hi.rep.wf
      left
      rw [if_neg (by omega)]
      exact ⟨h, rfl⟩
    · right
      rw [if_pos h]
      exact ⟨h, by simp [AObj.size]⟩
  have hob := hG0.obj
  have hobj := h.objs
  have hbnd := h.bound
  have hbig := h.big
  have hbig0 := hG0.big
  have hobjs := hG0.objs
  have hrm := h.room
  refine ⟨⟨G', φ', hi2⟩, ?_, ?_, ?_, ?_, ?_, ?_, ?_, hk⟩
  · show max s1.big (1 + refs + raws) ≤ 8001; omega
  · have : s0.words + ((1 + refs + raws : Nat) : Int) + s1.copied ≤ 400000 * ((k + 1 : Nat) : Int) := by omega
    obtain rfl | rfl | rfl : a = 0 ∨ a = 1 ∨ a = 2 := by omega
    all_goals exact this
  · simp [AHeap.make]; omega
  · have := hG0.nsl; simp [AHeap.make]; omega
  · show _ ≤ s1.bound; omega
  · have : s1.bound ≤ s1.room := by omega
    obtain rfl | rfl | rfl : a = 0 ∨ a = 1 ∨ a = 2 := by omega
    all_goals exact this
  · show 0 ≤ s1.objs ∧ s1.objs ≤ ((k + 1 : Nat) : Int); omega

theorem Paid.mid {units : Int} {must : Prop} {G : Areas} {φ : Nat → Int} {L' : Lay} {s' : HS} {w' : World} {c : Nat} (h : Paid hb A units must L s w w' L' s' G φ c) (h0 : s.room ≤ 65536) : Mid hb A L s w L' s' w' := by
  have hs := h.same
  have hc := h.copied
  have hr := h.room
  exact ⟨h.rep, ⟨_, _, h.inv⟩, hs.words, hs.objs, hs.bound, hs.room, hs.young, hs.big, h.slen, by omega, fun k hk => by have := h.lens k hk; omega, h.left, h.v3⟩

theorem Minored.mid {L' : Lay} {s' : HS} {G' : Areas} {φ' : Nat → Int} {w' : World} {c : Nat} (h : Minored hb A L s w w' L' s' G' φ' c) (hy : ((s.ar 2).length : Int) ≤ 65536) (hn : s.now < 2) : Mid hb A L s w L' s' w' := by
  have hs := h.same
  have hc := h.copied
  have hle := h.le
  refine ⟨h.rep, ⟨_, _, h.inv⟩, hs.words, hs.objs, hs.bound, hs.room, hs.young, hs.big, h.slen, by omega, fun k hk => ?_, h.left, h.v3⟩
  by_cases e : k = s.now
  · subst e; rw [h.now]; omega
  · by_cases e2 : k = 2
    · subst e2; rw [h.young]; simp; omega
    · have : k = 1 - s.now := by omega
      subst this; rw [h.other]; omega

theorem Mid.trans {L1 L2 : Lay} {s1 s2 : HS} {w1 w2 : World} (h : Mid hb A L s w L1 s1 w1) {G : Areas} {φ : Nat → Int} {units : Int} {must : Prop} {c : Nat} (k : Paid hb A units must L1 s1 w1 w2 L2 s2 G φ c) (hc : s2.copied ≤ s.copied + 131072) : Mid hb A L s w L2 s2 w2 := by
  have hs := k.same
  have hk := k.copied
  have h1 := h.copied
  exact ⟨k.rep, ⟨_, _, k.inv⟩, hs.words.trans h.words, hs.objs.trans h.objs, hs.bound.trans h.bound, hs.room.trans h.room, hs.young.trans h.young, hs.big.trans h.big, k.slen.trans h.slen, by omega, fun j hj => by have := h.lens j hj; have := k.lens j hj; omega, h.left.trans k.left, k.v3.trans h.v3⟩

set_option maxHeartbeats 1000000 in
/-- **made**: what it leaves, whatever it collects. -/
theorem made_any {k to tag refs raws : Nat} {s0 : HS} {G : Areas} {φ : Nat → Int} (hr : HRep w hb L s) (hi : InvG s G φ A) (hz : Sized s A) (hto : to < s.slots.length) (ht : tag < 65536) (hrf : refs ≤ 4000) (hrw : raws ≤ 4000) (hG0 : Good s0 A k) (hk : k + 1 ≤ 100000)
    (e1 : s.words = s0.words + (1 + refs + raws : Nat)) (e2 : s.copied = s0.copied) (e3 : s.objs = s0.objs + 1) (e4 : s.room = s0.room) (e5 : s.big = s0.big) (e6 : (A.live : Int) + (1 + refs + raws : Nat) ≤ s.bound) (e7 : s.bound ≤ s.room) (hl0 : ∀ k, k < 3 → ((s.ar k).length : Int) ≤ s0.words + s0.copied) :
    Calls Try.prog 52 #[.pointer (some ⟨hb, 0, none⟩), .int .i64 tag, .int .i64 refs, .int .i64 raws] w fun e w' => ∃ x, e = .returned (.int .i64 x) ∧ MadeN hb A k to tag refs raws L s w x (L.v 3) w' := by
  have hn := hi.rep.now
  have hb0 := hG0.bounds
  have hbig := hG0.big
  have hroom1 := hi.room1
  have hroom2 := hi.room2
  have hy2 := hi.young2
  have hyl := hi.ylen
  have hwc := hG0.wc
  have hkb := hG0.kb
  have hlens2 : ∀ k, k < 3 → (s.ar k).length ≤ 50000000000 := fun k hk => by have := hl0 k hk; omega
  have hlens : ∀ k, k < 3 → (s.ar k).length ≤ 100000000000 := fun k hk => by have := hlens2 k hk; omega
  by_cases hy : ((1 + refs + raws : Nat) : Int) ≤ s.young
  · by_cases hfit : ((s.ar 2).length : Int) + (1 + refs + raws : Nat) ≤ s.young
    · refine (made_young hr ht hrf hrw (hlens 2 (by omega)) (by omega) (by omega)).mono ?_
      rintro e w' ⟨rfl, hm⟩
      have hmid : Mid hb A L s w L s w := ⟨hr, ⟨_, _, hi⟩, rfl, rfl, rfl, rfl, rfl, rfl, rfl, by omega, fun _ _ => by omega, Left.refl _ _ _, rfl⟩
      exact ⟨_, rfl, mid_made hmid hm rfl hto (.inl rfl) ht hrf hrw (fun _ => hfit) hG0 hk e1 e2 e3 e4 e5 e6 e7 hl0⟩
    · refine (made_minor (M := fun L1 s1 W => Mid hb A L s w L1 s1 W ∧ (s1.ar 2).length = 0) (N := fun c W => ∃ L1 s1 G1 φ1, Minored hb A L s w W L1 s1 G1 φ1 c) hr ht hrf hrw (hlens 2 (by omega)) (by omega) (by omega) ?_ ?_ ?_).mono ?_
      · intro n
        refine (minor_any (w := w.drewN n) (hr.of_heap rfl) hi hz (by omega)).mono ?_
        rintro e w' ⟨r, rfl, L1, s1, G1, φ1, c, rfl, hm⟩
        exact ⟨c, rfl, L1, s1, G1, φ1, { hm with left := (Left.drewN n).trans hm.left }⟩
      · rintro c w' ⟨L1, s1, G1, φ1, hm⟩
        have hmid := hm.mid (by omega) hn
        have hc := hm.copied
        have hle := hm.le
        have hw := hm.same.words
        have hbg := hm.same.big
        have hsz1 : Sized s1 A := ⟨fun j hj => by have := hmid.lens j hj; have := hlens j hj; have := hmid.copied; omega, hz.count, hz.nslots⟩
        refine (pay_any hm.rep hm.inv hsz1 (by rw [show s1.big = s.big from hbg]; omega) (by rw [show s1.words = s.words from hw]; omega) ⟨by omega, by omega⟩).mono ?_
        rintro e w2 ⟨rfl, L2, s2, G2, φ2, c2, hp⟩
        have hp1 := hp.copied
        have hp2 := hp.room
        have hrm : s1.room = s.room := hm.same.room
        exact ⟨rfl, L2, s2, hmid.trans hp (by omega), by rw [hp.young, hm.young]; rfl⟩
      · rintro L1 s1 W ⟨h1, h2⟩
        exact ⟨h1.rep, by omega⟩
      · rintro e w' ⟨L1, s1, w1, ⟨hmid, h2⟩, rfl, hm⟩
        refine ⟨_, rfl, mid_made hmid hm hmid.v3 (by rw [hmid.slen]; exact hto) (.inl rfl) ht hrf hrw (fun _ => ?_) hG0 hk e1 e2 e3 e4 e5 e6 e7 hl0⟩
        rw [h2, hmid.young]; simpa using hy
  · refine (made_old (M := fun L1 s1 W => Mid hb A L s w L1 s1 W) hr ht hrf hrw hn (by omega) ?_ ?_).mono ?_
    · refine (pay_any hr hi hz (by omega) (by omega) ⟨by omega, by omega⟩).mono ?_
      rintro e w2 ⟨rfl, L2, s2, G2, φ2, c2, hp⟩
      exact ⟨rfl, L2, s2, hp.mid hroom2⟩
    · intro L1 s1 W h1
      obtain ⟨G1, φ1, hi1⟩ := h1.inv
      have hn1 := hi1.rep.now
      exact ⟨h1.rep, hn1, by have := h1.lens s1.now (by omega); have := hlens2 s1.now (by omega); have := h1.copied; omega⟩
    · rintro e w' ⟨L1, s1, w1, hmid, rfl, hm⟩
      obtain ⟨G1, φ1, hi1⟩ := hmid.inv
      have hn1 := hi1.rep.now
      exact ⟨_, rfl, mid_made hmid hm hmid.v3 (by rw [hmid.slen]; exact hto) (.inr rfl) ht hrf hrw (fun h => by omega) hG0 hk e1 e2 e3 e4 e5 e6 e7 hl0⟩

theorem MadeN.x {k to tag refs raws hx tx gx rx wx : Nat} (n1 : ¬ L.foot hb hx) (n2 : ¬ L.foot hb tx) (n3 : ¬ L.foot hb gx) (n4 : ¬ L.foot hb rx) (n5 : ¬ L.foot hb wx)
    (c1 : w.cell? ⟨hx, 0, none⟩ = some (.pointer (some ⟨hb, 0, none⟩))) (c2 : w.cell? ⟨tx, 0, none⟩ = some (.int .i64 to)) (c3 : w.cell? ⟨gx, 0, none⟩ = some (.int .i64 tag)) (c4 : w.cell? ⟨rx, 0, none⟩ = some (.int .i64 refs)) (c5 : w.cell? ⟨wx, 0, none⟩ = some (.int .i64 raws)) :
    MadeX hb hx tx gx rx wx to tag refs raws (fun x v W => MadeN hb A k to tag refs raws L s w x v W) := by
  refine ⟨fun x v W ⟨L2, s2, h1, h2, h3, h4, _⟩ => ?_⟩
  obtain ⟨sb, off, cap, d1, d2, d3, d4, d5⟩ := h1.slot h3
  exact ⟨fr_cell h4.fr c1 n1, fr_cell h4.fr c2 n2, fr_cell h4.fr c3 n3, fr_cell h4.fr c4 n4, fr_cell h4.fr c5 n5, by rw [← h2]; exact h1.c12, sb, off, _, cap, by rw [← h2]; exact d4, h3, ⟨_, d3⟩, d5⟩

theorem MadeN.done {k to tag refs raws : Nat} {x : Int} {v : Value} {W w' : World} {sb off sl cap : Nat} (h : MadeN hb A k to tag refs raws L s w x v W) (hv : v = .slice (some ⟨sb, off, none⟩) sl cap) (hw : Eqw (W.setCell ⟨sb, off + to, none⟩ (.int .i64 x)) w') :
    ∃ L2 s3, HRep w' hb L2 s3 ∧ Left hb L L2 w w' ∧ Good s3 (A.make to tag refs raws) (k + 1) ∧ (s.copied ≤ s3.copied ∧ s3.copied ≤ 1000000000000) ∧ s3.room = s.room ∧ s3.young = s.young := by
  obtain ⟨L2, s2, h1, h2, h3, h4, h5, h6, h7, h8⟩ := h
  have hput := h1.put (i := 3) (by omega) (h2.trans hv) (p := to) h3 x
  have h9 : HRep (W.setCell ⟨sb, off + to, none⟩ (.int .i64 x)) hb L2 { s2 with slots := s2.slots.set to x, big := max s2.big (1 + refs + raws) } := ⟨hput.blk, hput.sl, hput.off, hput.apart⟩
  have l1 := left_setCell W hb L2 (ownBlock_foot (i := 3) (by omega) (by rw [h2, hv]; rfl)) (off + to) (.int .i64 x)
  have l2 := h4.trans l1
  exact ⟨L2, _, h9.of_heap hw.1, ⟨⟨hw.2.1.trans l2.fr.os, hw.2.2.1.trans l2.fr.tape, hw.2.2.2.trans l2.fr.output, by rw [hw.1]; exact l2.fr.size, fun j hj hn => by rw [hw.1]; exact l2.fr.block j hj hn⟩, l2.foot⟩, h5, h6, h7, h8⟩
end
end Go.Proofs.Ythjokcjdphempaa

namespace Go.Proofs.Ythjokcjdphempaa
open Go.RowKit Hp Go.Shelf

section
variable {hb : Nat} {A : AHeap} {L : Lay} {s : HS} {w : World} {k : Nat}

theorem MadeN.from {to tag refs raws : Nat} {L1 : Lay} {s1 : HS} {w1 : World} {x : Int} {v : Value} {W : World} (h : MadeN hb A k to tag refs raws L1 s1 w1 x v W) (hl : Left hb L L1 w w1) (hc : s.copied ≤ s1.copied) (h1 : s1.room = s.room) (h2 : s1.young = s.young) :
    MadeN hb A k to tag refs raws L s w x v W := by
  obtain ⟨L2, s2, q1, q2, q3, q4, q5, q6, q7, q8⟩ := h
  exact ⟨L2, s2, q1, q2, q3, hl.trans q4, q5, by omega, q7.trans h1, q8.trans h2⟩

theorem counted_good {G : Areas} {φ : Nat → Int} (hi : InvG s G φ A) (n : Nat) : InvG (counted s n) G φ A := hi.head rfl rfl rfl rfl rfl rfl rfl rfl rfl rfl (by show s.words ≤ s.words + (n : Int); omega) rfl

/-- The world ahead of made. -/
theorem counted_at {n : Nat} {W W' : World} (hr : HRep W hb L s) (hw : Eqw (((W.setCell ⟨hb, 15, none⟩ (.int .i64 (s.bound + n))).setCell ⟨hb, 0, none⟩ (.int .i64 (s.objs + 1))).setCell ⟨hb, 1, none⟩ (.int .i64 (s.words + n))) W') :
    HRep W' hb L (counted s n) ∧ Left hb L L W W' := by
  have l1 := (left_setCell W hb L (.inl rfl) 15 (.int .i64 (s.bound + n))).trans ((left_setCell _ hb L (.inl rfl) 0 (.int .i64 (s.objs + 1))).trans (left_setCell _ hb L (.inl rfl) 1 (.int .i64 (s.words + n))))
  exact ⟨(counted_rep hr n).of_heap hw.1, ⟨⟨hw.2.1.trans l1.fr.os, hw.2.2.1.trans l1.fr.tape, hw.2.2.2.trans l1.fr.output, by rw [hw.1]; exact l1.fr.size, fun j hj hn => by rw [hw.1]; exact l1.fr.block j hj hn⟩, l1.foot⟩⟩

theorem Left.eqw {L' : Lay} {W W' : World} (h : Left hb L L' w W) (hw : Eqw W W') : Left hb L L' w W' :=
  ⟨⟨hw.2.1.trans h.fr.os, hw.2.2.1.trans h.fr.tape, hw.2.2.2.trans h.fr.output, by rw [hw.1]; exact h.fr.size, fun j hj hn => by rw [hw.1]; exact h.fr.block j hj hn⟩, h.foot⟩

theorem alloc_left (w : World) (o : Obj) : Left hb L L w (w.alloc o) := ⟨(fr_alloc1 w o).mono fun _ h => h.elim, fun _ h => .inl h⟩

/-- What the closure of Make leaves. -/
def Made (hb : Nat) (A : AHeap) (k to tag refs raws : Nat) (L : Lay) (s : HS) (w : World) (e : Ending) (W : World) : Prop :=
  ∃ L1 s1, HRep W hb L1 s1 ∧ Left hb L L1 w W ∧ (s.copied ≤ s1.copied ∧ s1.copied ≤ 1000000000000) ∧ s1.room = s.room ∧ s1.young = s.young ∧
    ((e = .returned (.tuple #[]) ∧ (A.live : Int) + (1 + refs + raws : Nat) ≤ s.room ∧ Good s1 (A.make to tag refs raws) (k + 1)) ∨ (e = .panicked (trouble 11) ∧ s.room < (A.live : Int) + (1 + refs + raws : Nat) ∧ Good s1 A k))

set_option maxHeartbeats 1000000 in
theorem make_clo {hx tx gx rx wx to tag refs raws : Nat} (hr : HRep w hb L s) (hG : Good s A k) (hk : k + 1 ≤ 100000) (hto : to < A.slots.length) (ht : tag < 65536) (hrf : refs ≤ 4000) (hrw : raws ≤ 4000)
    (n1 : ¬ L.foot hb hx) (n2 : ¬ L.foot hb tx) (n3 : ¬ L.foot hb gx) (n4 : ¬ L.foot hb rx) (n5 : ¬ L.foot hb wx)
    (c1 : w.cell? ⟨hx, 0, none⟩ = some (.pointer (some ⟨hb, 0, none⟩))) (c2 : w.cell? ⟨tx, 0, none⟩ = some (.int .i64 to)) (c3 : w.cell? ⟨gx, 0, none⟩ = some (.int .i64 tag)) (c4 : w.cell? ⟨rx, 0, none⟩ = some (.int .i64 refs)) (c5 : w.cell? ⟨wx, 0, none⟩ = some (.int .i64 raws)) :
    Calls Try.prog 49 #[.pointer (some ⟨hx, 0, none⟩), .pointer (some ⟨tx, 0, none⟩), .pointer (some ⟨gx, 0, none⟩), .pointer (some ⟨rx, 0, none⟩), .pointer (some ⟨wx, 0, none⟩)] w fun e W => Made hb A k to tag refs raws L s w e W := by
  obtain ⟨b1, b2, b3, b4, b5, b6⟩ := hG.bounds
  obtain ⟨G, φ, hi⟩ := hG.inv
  have hnsl := hG.nsl
  have hbnd := hG.bnd
  have hbndr := hG.bndr
  have hobj := hG.obj
  have hkb := hG.kb
  have hroom2 := hi.room2
  have hsize : (1 : Int) + (refs : Int) + (raws : Int) = ((1 + refs + raws : Nat) : Int) := by omega
  have hz := hG.sized
  have hX := MadeN.x (A := A) (k := k) (s := s) n1 n2 n3 n4 n5 c1 c2 c3 c4 c5
  have hrA := hr.of_fr (fr_alloc1 w (.cells #[.int .i64 to] 3)) (fun _ _ h => h)
  by_cases hfit : s.bound + (1 + (refs : Int) + (raws : Int)) ≤ s.room
  · refine (make_fit hr (by omega) c1 c2 c3 c4 c5 (by omega) ht hrf hrw ⟨by omega, by omega⟩ ⟨by omega, hroom2⟩ ⟨hobj.1, by omega⟩ ⟨b4, by omega⟩ n1 n2 n3 n4 n5 hfit hX ?_).mono ?_
    · intro W hW
      rw [hsize] at hW
      obtain ⟨q1, q2⟩ := counted_at hrA hW
      refine (made_any (s0 := s) (k := k) (to := to) q1 (counted_good hi _) ⟨hz.len, hz.count, hz.nslots⟩ (by show to < s.slots.length; omega) ht hrf hrw hG hk rfl rfl rfl rfl rfl (by show _ ≤ s.bound + ((1 + refs + raws : Nat) : Int); omega) (by show s.bound + ((1 + refs + raws : Nat) : Int) ≤ s.room; omega) (fun j hj => hi.lens j hj)).mono ?_
      rintro e w' ⟨x, rfl, hm⟩
      exact ⟨x, rfl, hm.from ((alloc_left w _).trans q2) (Int.le_refl _) rfl rfl⟩
    · rintro e w' ⟨rfl, x, sb, off, sl, cap, W, hv, hm, hw⟩
      obtain ⟨L2, s3, q1, q2, q3, q4, q5, q6⟩ := hm.done hv hw
      exact ⟨L2, s3, q1, q2, q4, q5, q6, .inl ⟨rfl, by omega, q3⟩⟩
  · obtain ⟨sb, off, cap, d1, d2, d3, d4, d5⟩ := hr.slot (i := to) (by omega)
    have hne : ∀ b, ¬ L.foot hb b → b ≠ hb := fun b h e => h (.inl e)
    have H39 : ∀ W, Eqw (w.alloc (.cells #[.int .i64 to] 3)) W → Calls Try.prog 39 #[.pointer (some ⟨hb, 0, none⟩)] W fun e W' => e = .returned (.int .i64 A.live) ∧ ∃ L' s' G' φ', Walked hb A L s W W' L' s' G' φ' ∧ Left hb L L' w W' := by
      intro W hW
      refine (live_any (w := W) (hrA.of_heap hW.1) hi hz).mono ?_
      rintro e W' ⟨rfl, L', s', G', φ', hw⟩
      refine ⟨rfl, L', s', G', φ', hw, ((alloc_left w _).eqw hW).trans ⟨hw.fr, fun j hj => .inl ?_⟩⟩
      rcases hj with rfl | ⟨i, hi', hj⟩
      · exact .inl rfl
      · exact .inr ⟨i, hi', by rw [← (hw.base i hi').own]; exact hj⟩
    have hNL : ∀ W, (∃ L' s' G' φ' W0, Walked hb A L s W0 W L' s' G' φ' ∧ Left hb L L' w W) → W.cell? ⟨hx, 0, none⟩ = some (.pointer (some ⟨hb, 0, none⟩)) ∧ W.cell? ⟨tx, 0, none⟩ = some (.int .i64 to) ∧ W.cell? ⟨gx, 0, none⟩ = some (.int .i64 tag) ∧ W.cell? ⟨rx, 0, none⟩ = some (.int .i64 refs) ∧ W.cell? ⟨wx, 0, none⟩ = some (.int .i64 raws) ∧
        W.cell? ⟨hb, 15, none⟩ = some (.int .i64 s.bound) ∧ W.cell? ⟨hb, 6, none⟩ = some (.int .i64 s.room) ∧ W.cell? ⟨hb, 0, none⟩ = some (.int .i64 s.objs) ∧ W.cell? ⟨hb, 1, none⟩ = some (.int .i64 s.words) ∧ W.cell? ⟨hb, 12, none⟩ = some (.slice (some ⟨sb, off, none⟩) s.slots.length cap) ∧ ∀ k, W.frozen? ⟨hb, k, none⟩ = false := by
      rintro W ⟨L', s', G', φ', W0, hw, hl⟩
      have e3 : L'.v 3 = L.v 3 := base_eq (hw.base 3 (by omega)) hr.slots hw.rep.slots hw.slen.symm
      exact ⟨fr_cell hl.fr c1 n1, fr_cell hl.fr c2 n2, fr_cell hl.fr c3 n3, fr_cell hl.fr c4 n4, fr_cell hl.fr c5 n5, by rw [← hw.same.bound]; exact hw.rep.c15, by rw [← hw.same.room]; exact hw.rep.c6, by rw [← hw.same.objs]; exact hw.rep.c0, by rw [← hw.same.words]; exact hw.rep.c1,
        by rw [← d4, ← e3]; exact hw.rep.c12, hw.rep.froz⟩
    have hlive := hi.live
    have hroomI : (0 : Int) ≤ s.room := by omega
    have hkeep : ∀ {W : World} {L' : Lay} {s' : HS} {G' : Areas} {φ' : Nat → Int} {W0 : World}, Walked hb A L s W0 W L' s' G' φ' → HRep (W.setCell ⟨hb, 15, none⟩ (.int .i64 A.live)) hb L' { s' with bound := A.live } ∧ InvG { s' with bound := A.live } G' φ' A ∧ Good { s' with bound := A.live } A k ∧ L'.v 3 = L.v 3 := by
      intro W L' s' G' φ' W0 hw
      have hi2 : InvG { s' with bound := (A.live : Int) } G' φ' A := hw.inv.head rfl rfl rfl rfl rfl rfl rfl rfl rfl rfl (Int.le_refl _) rfl
      have hg2 := hG.kept hw.inv hw.kept
      have hrm : s'.room = s.room := hw.same.room
      exact ⟨hw.rep.scalar 15 _ rfl (fun i _ => rfl), hi2, ⟨⟨G', φ', hi2⟩, hg2.big, hg2.wc, hg2.objs, hg2.nsl, Int.le_refl _, by show (A.live : Int) ≤ s'.room; rw [hrm]; exact hlive, hg2.obj, hg2.kb⟩, base_eq (hw.base 3 (by omega)) hr.slots hw.rep.slots hw.slen.symm⟩
    by_cases hyes : (A.live : Int) + (1 + (refs : Int) + (raws : Int)) ≤ s.room
    · refine (make_fit2 (lv := A.live) (bd := s.bound) (room := s.room) (ob := s.objs) (wd := s.words) (sb := sb) (off := off) (sl := s.slots.length) (cap := cap) hr (by omega) c1 c2 c3 c4 c5 (by omega) ht hrf hrw ⟨by omega, by omega⟩ ⟨hroomI, hroom2⟩ ⟨by omega, by omega⟩ ⟨hne _ n1, hne _ n2, hne _ n3, hne _ n4, hne _ n5⟩ rfl rfl (by omega)
        (NL := fun W => ∃ L' s' G' φ' W0, Walked hb A L s W0 W L' s' G' φ' ∧ Left hb L L' w W) (fun W hW => (H39 W hW).mono ?_) hNL hyes ⟨hobj.1, by omega⟩ ⟨b4, by omega⟩ (by omega) d2 hX ?_).mono ?_
      · rintro e W' ⟨rfl, L', s', G', φ', h1, h2⟩
        exact ⟨rfl, L', s', G', φ', W, h1, h2⟩
      · rintro W5 ⟨L', s', G', φ', W0, hw, hl⟩ W hW
        obtain ⟨r1, i1, g1, v3⟩ := hkeep hw
        rw [hsize] at hW
        have hob' : s'.objs = s.objs := hw.same.objs
        have hwd' : s'.words = s.words := hw.same.words
        have hrm : s'.room = s.room := hw.same.room
        have hyg : s'.young = s.young := hw.same.young
        have hsl' := hw.slen
        rw [← hob', ← hwd'] at hW
        obtain ⟨q1, q2⟩ := counted_at (n := 1 + refs + raws) r1 hW
        have hz1 := g1.sized
        refine (made_any (s0 := { s' with bound := (A.live : Int) }) (k := k) (to := to) q1 (counted_good i1 _) ⟨hz1.len, hz1.count, hz1.nslots⟩ (by show to < s'.slots.length; omega) ht hrf hrw g1 hk rfl rfl rfl rfl rfl (by show _ ≤ (A.live : Int) + ((1 + refs + raws : Nat) : Int); omega) (by show (A.live : Int) + ((1 + refs + raws : Nat) : Int) ≤ s'.room; omega) (fun j hj => i1.lens j hj)).mono ?_
        rintro e w' ⟨x, rfl, hm⟩
        rw [v3, d4] at hm
        exact ⟨x, rfl, hm.from ((hl.trans (left_setCell W5 hb L' (.inl rfl) 15 _)).trans q2) (by show s.copied ≤ s'.copied; rw [hw.copied]; exact Int.le_refl _) hrm hyg⟩
      · rintro e w' ⟨rfl, x, sb', off', sl', cap', W, hv, hm, hw⟩
        obtain ⟨L2, s3, q1, q2, q3, q4, q5, q6⟩ := hm.done hv hw
        exact ⟨L2, s3, q1, q2, q4, q5, q6, .inl ⟨rfl, by omega, q3⟩⟩
    · refine (make_full (lv := A.live) (bd := s.bound) (room := s.room) (ob := s.objs) (wd := s.words) (sb := sb) (off := off) (sl := s.slots.length) (cap := cap) hr (by omega) c1 c2 c3 c4 c5 (by omega) ht hrf hrw ⟨by omega, by omega⟩ ⟨hroomI, hroom2⟩ ⟨by omega, by omega⟩ ⟨hne _ n1, hne _ n2, hne _ n3, hne _ n4, hne _ n5⟩ rfl rfl (by omega)
        (NL := fun W => ∃ L' s' G' φ' W0, Walked hb A L s W0 W L' s' G' φ' ∧ Left hb L L' w W) (fun W hW => (H39 W hW).mono ?_) hNL (by omega)).mono ?_
      · rintro e W' ⟨rfl, L', s', G', φ', h1, h2⟩
        exact ⟨rfl, L', s', G', φ', W, h1, h2⟩
      · rintro e w' ⟨rfl, W5, ⟨L', s', G', φ', W0, hw, hl⟩, hE⟩
        obtain ⟨r1, i1, g1, v3⟩ := hkeep hw
        refine ⟨L', _, r1.of_heap hE.1, (hl.trans (left_setCell W5 hb L' (.inl rfl) 15 _)).eqw hE, ?_, hw.same.room, hw.same.young, .inr ⟨rfl, by omega, g1⟩⟩
        show s.copied ≤ s'.copied ∧ s'.copied ≤ _
        rw [hw.copied]; omega

theorem Make_any (hr : HRep w hb L s) (hG : Good s A k) (hk : k + 1 ≤ 100000) {to tag refs raws : Nat} (hto : to < A.slots.length) (ht : tag < 65536) (hrf : refs ≤ 4000) (hrw : raws ≤ 4000) :
    Calls Try.prog 14 #[.pointer (some ⟨hb, 0, none⟩), .int .i64 to, .int .i64 tag, .int .i64 refs, .int .i64 raws] w fun e w' =>
      ((A.live : Int) + (1 + refs + raws : Nat) ≤ s.room ∧ e = .returned (.int .i64 0) ∧ After hb L s w (A.make to tag refs raws) (k + 1) w') ∨ (s.room < (A.live : Int) + (1 + refs + raws : Nat) ∧ e = .returned (.int .i64 11) ∧ After hb L s w A k w') := by
  refine (Make_w (R := fun x w' => ((A.live : Int) + (1 + refs + raws : Nat) ≤ s.room ∧ x = 0 ∧ After hb L s w (A.make to tag refs raws) (k + 1) w') ∨ (s.room < (A.live : Int) + (1 + refs + raws : Nat) ∧ x = 11 ∧ After hb L s w A k w'))
    ((meth0 (os := [.cells #[.pointer (some ⟨hb, 0, none⟩)] 23, .cells #[.int .i64 to] 3, .cells #[.int .i64 tag] 3, .cells #[.int .i64 refs] 3, .cells #[.int .i64 raws] 3]) hr hG (enters_of Try.func49 (by kernel_rfl) rfl)
    (R := fun x s1 => s1.room = s.room ∧ s1.young = s.young ∧ (((A.live : Int) + (1 + refs + raws : Nat) ≤ s.room ∧ x = 0 ∧ Good s1 (A.make to tag refs raws) (k + 1)) ∨ (s.room < (A.live : Int) + (1 + refs + raws : Nat) ∧ x = 11 ∧ Good s1 A k))) ?_).mono ?_)).mono ?_
  · intro Wc hf hrc
    have x0 := box_at hf 0 rfl
    have x1 := box_at hf 1 rfl
    have x2 := box_at hf 2 rfl
    have x3 := box_at hf 3 rfl
    have x4 := box_at hf 4 rfl
    refine (make_clo hrc hG hk hto ht hrf hrw (foot_lt hr (by omega)) (foot_lt hr (by omega)) (foot_lt hr (by omega)) (foot_lt hr (by omega)) (foot_lt hr (by omega)) (cell_of_box x0).1 (cell_of_box x1).1 (cell_of_box x2).1 (cell_of_box x3).1 (cell_of_box x4).1).mono ?_
    rintro e W1 ⟨L1, s1, h1, h2, h3, h4, h5, ⟨rfl, h6, h7⟩ | ⟨rfl, h6, h7⟩⟩
    · exact ⟨L1, s1, none, .inl ⟨rfl, rfl⟩, h1, h2, h3, h4, h5, .inl ⟨h6, rfl, h7⟩⟩
    · exact ⟨L1, s1, some 11, .inr ⟨11, rfl, rfl⟩, h1, h2, h3, h4, h5, .inr ⟨h6, rfl, h7⟩⟩
  · rintro e w' ⟨x, rfl, L1, s1, h1, h2, h3, h4, ⟨h5, h6, h7⟩ | ⟨h5, h6, h7⟩⟩
    · exact ⟨x, rfl, .inl ⟨h5, h6, After.of h1 h2 h7 h3 h4⟩⟩
    · exact ⟨x, rfl, .inr ⟨h5, h6, After.of h1 h2 h7 h3 h4⟩⟩
  · rintro e w' ⟨x, rfl, ⟨h5, rfl, h7⟩ | ⟨h5, rfl, h7⟩⟩
    · exact .inl ⟨h5, rfl, h7⟩
    · exact .inr ⟨h5, rfl, h7⟩
end
end Go.Proofs.Ythjokcjdphempaa
