/- The walks through (*Heap).live, and of the functions that leave objects where they are. -/
import Derived.Test.YthjokcjdphempaaWalk
import Derived.Test.YthjokcjdphempaaGk
import Derived.Shelf.Abstract
namespace Go.Proofs.Ythjokcjdphempaa
open Go.RowKit Hp Go.Shelf

theorem id42 (n : Int) (w : World) : Calls Try.prog 42 #[.int .i64 n] w fun e w' => e = .returned (.int .i64 n) ∧ w = w' := by
  go_enter Try.func42, Try.ntmps42
  go_wp2
  go_ret
  exact ⟨rfl, rfl⟩
theorem id77 (n : Int) (w : World) : Calls Try.prog 77 #[.int .i64 n] w fun e w' => e = .returned (.int .i64 n) ∧ w = w' := by
  go_enter Try.func77, Try.ntmps77
  go_wp2
  go_ret
  exact ⟨rfl, rfl⟩
theorem id83 (n : Int) (w : World) : Calls Try.prog 83 #[.int .i64 n] w fun e w' => e = .returned (.int .i64 n) ∧ w = w' := by
  go_enter Try.func83, Try.ntmps83
  go_wp2
  go_ret
  exact ⟨rfl, rfl⟩

/-- A function that hands back what it is given moves nothing. -/
theorem move_id {E : WEnv} (h : ∀ n w, Calls Try.prog E.g #[.int .i64 n] w fun e w' => e = .returned (.int .i64 n) ∧ w = w') (hl : E.lb = #[]) (hm : E.mv = none) : MoveOk E := by
  intro lr D out w L s G φ lv m hw hr
  refine ⟨φ m, ?_⟩
  rw [hl, Array.append_empty]
  refine (h (φ m) w).mono ?_
  rintro e w' ⟨rfl, rfl⟩
  exact ⟨rfl, L, s, G, φ, rfl, hw, fun a ha => (by rw [hm] at ha; cases ha), fun _ _ => rfl, fun i _ _ q hq => ⟨hq, rfl⟩⟩

/-- Sizes that keep all numbers small. -/
structure Sized (s : HS) (A : AHeap) : Prop where
  len : ∀ k, k < 3 → (s.ar k).length ≤ 200000000000
  count : A.objs.length ≤ 900000000000
  nslots : A.slots.length ≤ 1000000000000

theorem Sized.small {s : HS} {A : AHeap} (h : Sized s A) : Small s := ⟨fun k hk => by have := h.len k hk; omega⟩

/-- What a walk that moves nothing leaves. -/
structure Walked (hb : Nat) (A : AHeap) (L : Lay) (s : HS) (w : World) (w' : World) (L' : Lay) (s' : HS) (G' : Areas) (φ' : Nat → Int) : Prop where
  rep : HRep w' hb L' s'
  inv : InvG s' G' φ' A
  todo : todoSum s' = todoSum s
  same : Same s s'
  copied : s'.copied = s.copied
  lens : ∀ k, (s'.ar k).length = (s.ar k).length
  slen : s'.slots.length = s.slots.length
  base : ∀ i, i < 5 → SameBase (L.v i) (L'.v i)
  fr : Fr (L.foot hb) w w'

theorem walk_id {hb g : Nat} {A : AHeap} {s : HS} {G : Areas} {φ : Nat → Int} {L : Lay} {w : World} (hr : HRep w hb L s) (hi : InvG s G φ A) (hz : Sized s A)
    (hid : ∀ n w, Calls Try.prog g #[.int .i64 n] w fun e w' => e = .returned (.int .i64 n) ∧ w = w') (hg : ∀ args w, (callFunc g args).run Try.prog w = .ok (.enter g args) w) :
    Calls Try.prog 41 #[.pointer (some ⟨hb, 0, none⟩), .func (.func g) #[] #[]] w fun e w' => ∃ L' s' G' φ' lv, e = .returned lv ∧ Walked hb A L s w w' L' s' G' φ' ∧
      WInv A none False s G φ (DF A) A.search s' G' φ' ∧ IsSl w' lv (A.search.map φ') ∧ ∀ k, lv.ownBlock = some k → w.heap.size ≤ k := by
  have hst : WInv A none False s G φ (fun _ => False) [] s G φ := WInv.start hi.rep (fun _ h => h) (fun _ h => by cases h) (fun h => h.elim)
  refine (walk_any hr hst hz.len hz.count hz.nslots (fun _ h => by cases h) (move_id hid rfl rfl) hg).mono ?_
  rintro e w' ⟨L', s', G', φ', lv, rfl, h1, h2, h3, h4, h5, h6⟩
  obtain ⟨i1, i2⟩ := hi.walked h2
  obtain ⟨q1, q2, q3⟩ := h2.still (.inl rfl)
  exact ⟨L', s', G', φ', lv, rfl, ⟨h1, i1, i2, h2.same, q1, q2, h2.slen, h3, h4⟩, h2, h5, h6⟩

theorem Walked.sized {hb : Nat} {A : AHeap} {L : Lay} {s : HS} {w w' : World} {L' : Lay} {s' : HS} {G' : Areas} {φ' : Nat → Int} (h : Walked hb A L s w w' L' s' G' φ') (hz : Sized s A) : Sized s' A :=
  ⟨fun k hk => by rw [h.lens]; exact hz.len k hk, hz.count, hz.nslots⟩

/-- The object m stands at φ m. -/
theorem obj_at {A : AHeap} {D : Ptr → Prop} {s : HS} {G : Areas} {φ : Nat → Int} (h : Rep D s G φ A) (hsm : Small s) {m : Nat} (hm : Hp.Reach A m) : AtObj s (φ m) ∧ headAt s (φ m) = hdr (A.obj m).tag (A.obj m).refs.length (A.obj m).raws.length ∧
    sizeN (headAt s (φ m)) = (A.obj m).size ∧ newest s (φ m) = φ m ∧ GoodRef s (φ m) := by
  obtain ⟨a1, a2, a3⟩ := h.atPhi hm
  obtain ⟨f1, f2, f3⟩ := h.fits m hm
  have hp := h.pos hm
  have hh : headAt s (φ m) = hdr (A.obj m).tag (A.obj m).refs.length (A.obj m).raws.length := a1
  have hsz : sizeN (headAt s (φ m)) = (A.obj m).size := by
    rw [hh]; unfold sizeN AObj.size; rw [refsN_hdr f1 (by omega), rawsN_hdr f1 (by omega)]
  have hnn := hdr_nonneg (A.obj m).tag (A.obj m).refs.length (A.obj m).raws.length
  obtain ⟨g1, g2⟩ := h.newest_ok (x := φ m) (n := m + 1) (.inl rfl) (fun j e => by have e2 : j = m := (by omega); rw [e2]; exact hm)
  have hlen : pOf (φ m) < (s.ar (aOf (φ m))).length := by unfold AObj.size at a3; omega
  refine ⟨⟨hp, ref_small hsm hp a2 hlen, a2, by rw [hh]; exact hnn, ?_, ?_⟩, hh, hsz, g1, g2⟩
  · rw [hsz]; exact a3
  · rw [hh]; unfold hdr; omega

/-- The words of the object m. -/
theorem words_obj {A : AHeap} {D : Ptr → Prop} {s : HS} {G : Areas} {φ : Nat → Int} (h : Rep D s G φ A) (hsm : Small s) {hb : Nat} {L : Lay} {w : World} (hr : HRep w hb L s) {m : Nat} (hm : Hp.Reach A m) :
    ∃ b off, (∀ W : World, W.heap = w.heap → Calls Try.prog 45 #[.pointer (some ⟨hb, 0, none⟩), .int .i64 (φ m)] W fun e w' => e = .returned (.slice (some ⟨b, off + pOf (φ m), none⟩) (A.obj m).size (A.obj m).size) ∧ W = w') ∧
      ∃ n cap, L.v (aOf (φ m)) = .slice (some ⟨b, off, none⟩) n cap := by
  obtain ⟨at1, at2, at3, at4, at5⟩ := obj_at h hsm hm
  obtain ⟨b, off, cap, e, _⟩ := HRep.place (E := ⟨hb, 0, 0, #[], A, none, False, s, G, φ, L, w⟩) hr (i := aOf (φ m)) (q := pOf (φ m)) (by have := at1.area; omega) (by rw [sl_ar _ at1.area]; have := at1.size; rw [at3] at this; unfold AObj.size at this; omega)
  refine ⟨b, off, fun W hW => ?_, _, _, e⟩
  have := words_any (w := W) (hr.of_heap hW) at5 at1.fit hsm at4 at1
  rw [e, at3] at this
  exact this

theorem sum_take_le (f : Nat → Nat) : ∀ (l : List Nat) (i : Nat), ((l.take i).map f).sum ≤ (l.map f).sum
  | [], i => by simp
  | x :: l, 0 => by simp
  | x :: l, i + 1 => by simp only [List.take_succ_cons, List.map_cons, List.sum_cons]; have := sum_take_le f l i; omega

set_option maxHeartbeats 1000000 in
/-- **live**. -/
theorem live_any {hb : Nat} {A : AHeap} {s : HS} {G : Areas} {φ : Nat → Int} {L : Lay} {w : World} (hr : HRep w hb L s) (hi : InvG s G φ A) (hz : Sized s A) :
    Calls Try.prog 39 #[.pointer (some ⟨hb, 0, none⟩)] w fun e w' => e = .returned (.int .i64 A.live) ∧ ∃ L' s' G' φ', Walked hb A L s w w' L' s' G' φ' := by
  have HW := Lib.hid (walk_id hr hi hz id77 (enters_of Try.func77 (by kernel_rfl) rfl))
  have HL : A.live ≤ 65536 := by have := hi.live; have := hi.room2; omega
  have hcount : A.search.length ≤ 900000000000 := by have := outAt_length hi.rep.wf A.objs.length; have := hz.count; unfold AHeap.search; omega
  have HZ := Lib.hid hz
  clear hr hi hz
  go_enter Try.func39, Try.ntmps39
  go_wp2_with (go_at_call 41; refine HW.out.mono ?_; rintro e w1 ⟨L', s', G', φ', lv, rfl, hw, hinv, hl, _⟩; have ⟨la, lc, hlv⟩ := hl.shape; rw [List.length_map] at hlv; have HW1 := Lib.hid hw; have Hl := Lib.hid hl; have Hv := Lib.hid hlv; clear hw hinv hl; subst hlv)
  go_loop [3, 9] (fun t u => ∃ i : Nat, u = .int .i64 i ∧ t = .int .i64 (((A.search.take i).map fun m => (A.obj m).size).sum : Nat) ∧ i ≤ A.search.length) (fun _ u => A.search.length - (intOf u).toNat)
  case atStart => exact ⟨0, rfl, rfl, Nat.zero_le _⟩
  case round =>
    obtain ⟨i, rfl, rfl, hi⟩ := hrel
    have hsum := sum_take_le (fun m => (A.obj m).size) A.search i
    have hsum' := sum_take_le (fun m => (A.obj m).size) A.search (i + 1)
    obtain ⟨S, hS⟩ : ∃ S, S = ((A.search.take i).map fun m => (A.obj m).size).sum := ⟨_, rfl⟩
    rw [← hS] at hsum
    have hSL : S ≤ 65536 := Nat.le_trans hsum HL
    have Hs := Lib.hid hsum'
    have HS := Lib.hid hS
    rw [← hS]
    clear hsum hsum' hS
    by_cases hlt : i < A.search.length
    · have hw := HW1.out
      have hm : A.search[i]? = some A.search[i] := List.getElem?_eq_getElem hlt
      obtain ⟨m, em⟩ : ∃ m, m = A.search[i] := ⟨_, rfl⟩
      rw [← em] at hm
      have hre : Hp.Reach A m := (mem_search hw.inv.rep.wf).1 (List.mem_of_getElem? hm)
      obtain ⟨b, off, hcall, _⟩ := words_obj hw.inv.rep (hw.sized HZ.out).small hw.rep hre
      obtain ⟨lb, lo, lc', e1, l1, l2, _⟩ := Hl.out.get (i := i) (by simpa using hlt)
      have l3 := l2 i (by simpa using hlt)
      have l4 : (List.map φ' A.search).getD i 0 = φ' m := by rw [List.getD_eq_getElem?_getD, List.getElem?_map, hm]; rfl
      rw [l4] at l3
      rw [List.length_map] at e1 l1
      cases e1
      have hnext : ((A.search.take (i + 1)).map fun m => (A.obj m).size).sum = S + (A.obj m).size := by
        rw [List.take_add_one, hm, HS.out]; simp
      obtain ⟨z, hz⟩ : ∃ z, z = (A.obj m).size := ⟨_, rfl⟩
      rw [← hz] at hcall hnext
      have hz2 : S + z ≤ 65536 := by have := Hs.out; rw [hnext] at this; exact Nat.le_trans this HL
      have Hc := Lib.hid hcall
      have Hn := Lib.hid hnext
      clear hcall hnext hw hre hm em l4 l2 hz
      go_wp2_with (go_at_call 45; refine (Hc.out _ rfl).mono ?_; rintro e w' ⟨rfl, rfl⟩)
      go_round
      case rel => exact ⟨i + 1, by go_num, by rw [Hn.out]; go_num, by omega⟩
      case measure => simp [intOf]; omega
    · have hil : i = A.search.length := by omega
      go_wp2
      go_ret
      refine ⟨ret_int ?_, L', s', G', φ', HW1.out⟩
      rw [HS.out, hil, List.take_length]; rfl
end Go.Proofs.Ythjokcjdphempaa
